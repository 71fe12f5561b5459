/- What the printed functions are written with. -/
import Derived.Test.YtfcjpopnibhagaaDoorAmFun
set_option linter.all false
namespace Go.AM

def at_ (vs : List V) (i : Nat) : V := vs.getD i undef
def strV (a : V) : Option V := match a with | .string s => some (.string s) | _ => none
def lenStr (a : V) : Option V := match a with | .string s => some (i64 s.size) | _ => none
def lenSlc (a : V) : Option V := match a with | .slice _ n _ => some (i64 n) | _ => none
def bndH {R : Type} (m : M V) (k : Heap → V → Heap → M R) : M R := fun H => match m H with | some (v, H') => k H v H' H' | none => none
def withResv {R : Type} (n : Nat) (k : Nat → Heap → M R) : M R := fun H => k H.next (resv H n) (resv H n)
def withH {R : Type} (k : Heap → M R) : M R := fun H => k H H

/-! ### tables of functions -/
abbrev noC : Calls' := ofTbl []
def ovr : List (Nat × (List V → M V)) → Calls' → Calls'
  | [], S => S
  | (g, F) :: rest, S => fun f => bif Nat.beq f g then F else ovr rest S f
theorem simAll_ovr {P : Program} {S : Calls'} {g : Nat} {F : List V → M V} {l : List (Nat × (List V → M V))} (h : Known P g F) (hl : SimAll P (ovr l S)) : SimAll P (ovr ((g, F) :: l) S) := by
  intro f args H r H' hr
  simp only [ovr] at hr ⊢
  cases hb : Nat.beq f g with
  | true =>
    have := Nat.eq_of_beq_eq_true hb; subst this
    simp only [cond_true]; exact h
  | false =>
    rw [hb] at hr
    simp only [cond_false] at hr ⊢
    exact hl f args H r H' hr
theorem simAll_nil0 {P : Program} : SimAll P (ovr [] noC) := simAll_nil
theorem simAll_base {P : Program} {S : Calls'} (h : SimAll P S) : SimAll P (ovr [] S) := h
@[simp] theorem callM_ovr (g : Nat) (F : List V → M V) (l : List (Nat × (List V → M V))) (S : Calls') (x y : Array V) (args : List V) : callM (ovr ((g, F) :: l) S) (.func (.func g) x y) args = F (x.toList ++ (args ++ y.toList)) := by
  simp [callM, ovr]

end Go.AM
