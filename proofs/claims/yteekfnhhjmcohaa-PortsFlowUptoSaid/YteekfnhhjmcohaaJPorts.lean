/- ports: how the arguments of its laws are opened -/
import Derived.Test.YteekfnhhjmcohaaPoL
import Derived.Test.YteekfnhhjmcohaaAmOpenS
import Derived.Test.YteekfnhhjmcohaaRows
set_option linter.all false
namespace Go.AM.Cap
open Go.AM Go.Proofs Go.Proofs.Yteekfnhhjmcohaa Go.ChangeShapes Go.WideShapes

def datPort {H : Type} (p : Port) : DataW H := .agg [datI p.kind, datI p.src, datI p.dst, datI p.typ, datI p.cap]
def datAct {H : Type} (p : Act) : DataW H := .agg [datI p.kind, datI p.part, datI p.port, datI p.n]
def goodPort (p : Port) : Prop := goodI p.kind ∧ goodI p.src ∧ goodI p.dst ∧ goodI p.typ ∧ goodI p.cap
def goodAct (p : Act) : Prop := goodI p.kind ∧ goodI p.part ∧ goodI p.port ∧ goodI p.n
theorem absPort (N : Nat) (a : Port) : (Flat.enc a).map (absV N) = Flat.enc a := rfl
theorem absAct (N : Nat) (a : Act) : (Flat.enc a).map (absV N) = Flat.enc a := rfl
theorem op_port {H : Type} {enc : TypeId × Value → H} {P : Program} {W : World} {t : TypeId} (hk : intsOk P t 5 = true) (n : Nat) (cs : List Value) (x : DataW H × List MemPlace) (h : DataW.trod enc P W 0 (fun _ => true) true n t cs = some x) :
    ∃ a : Port, cs = Flat.enc a ∧ x.1 = datPort a ∧ goodPort a := by
  obtain ⟨ns, hl, hc, hx, hg⟩ := op_ints hk n cs x h
  match ns, hl with
  | [a, b, c, d, e], _ => exact ⟨⟨a, b, c, d, e⟩, hc, hx, hg a (by simp), hg b (by simp), hg c (by simp), hg d (by simp), hg e (by simp)⟩
theorem op_act {H : Type} {enc : TypeId × Value → H} {P : Program} {W : World} {t : TypeId} (hk : intsOk P t 4 = true) (n : Nat) (cs : List Value) (x : DataW H × List MemPlace) (h : DataW.trod enc P W 0 (fun _ => true) true n t cs = some x) :
    ∃ a : Act, cs = Flat.enc a ∧ x.1 = datAct a ∧ goodAct a := by
  obtain ⟨ns, hl, hc, hx, hg⟩ := op_ints hk n cs x h
  match ns, hl with
  | [a, b, c, d], _ => exact ⟨⟨a, b, c, d⟩, hc, hx, hg a (by simp), hg b (by simp), hg c (by simp), hg d (by simp)⟩
theorem bulk_ports {H : Type} {d : DataW H} {l : List Port} (h : (d = .nil ∧ l = []) ∨ ∃ rest, d = .slice (l.map datPort) rest) : 6 * l.length ≤ Rows.uptoBulk d := by
  have key : ∀ l : List Port, 6 * l.length ≤ Rows.uptoBulkAll (l.map (datPort (H := H))) := by
    intro l
    induction l with
    | nil => simp [Rows.uptoBulkAll]
    | cons s l ih =>
      simp only [List.length_cons, List.map_cons, Rows.uptoBulkAll, datPort, datI, Rows.uptoBulk] at ih ⊢
      omega
  rcases h with ⟨rfl, rfl⟩ | ⟨rest, rfl⟩
  · simp
  · have := key l
    simp only [Rows.uptoBulk]
    omega
end Go.AM.Cap
