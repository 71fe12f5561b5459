import Derived.Test.YtjchglndancedaaGreatDoorCfBo
import Derived.Test.YtjchglndancedaaGreatDoorCfM
import Derived.Test.YtjchglndancedaaGreatDoorAmIn
set_option linter.all false
/- conf: what is shown; a line whose words are laid; the loop over points -/
set_option maxHeartbeats 8000000
namespace Go.AM.Cap
open Go.AM Go.Proofs
variable {H0 H : Heap} {L : List Thing}
def zw4 (t : Int) : ByteArray := [zji, z83, kInt, z84].getD t.toNat zji
def levW (t : Int) : ByteArray := [zji, z86, kRun, z04, z05].getD t.toNat zji
def zye (p : Pt) : List UInt8 := zer (if p.out then z9g else kIn) [.s (zw4 p.typ)]
def zyf (g : Gr) : List UInt8 := zer (if g.write then zrg else zblr) [.n g.part, .n g.point]
def znq (q : Port) : List UInt8 := if q.kind = 1 then zer z9r [.n q.src, .n q.dst, .s (zw4 q.typ)] else zer zx8 [.n q.src, .n q.dst, .s (zw4 q.typ), .n q.cap]
def znr (w : Win) : List UInt8 := if w.part < 0 then zer zbls [.n w.start, .n w.len] else zer z9s [.n w.part, .n w.start, .n w.len]
def zlf (k : ByteArray) (b : Bd) : List UInt8 := zer k [.s (if b.kind = 1 then zjz else zpy), .n b.n]
def zpk (u : PUn) : List UInt8 := zer zbca [] ++ u.ins.flatMap (zlf z03) ++ u.outs.flatMap (zlf kPut)
def zua (s : Sy) : List UInt8 := s.pts.flatMap zye ++ s.grs.flatMap zyf ++ s.prs.flatMap znq ++ s.wins.flatMap znr ++ s.uns.flatMap zpk
theorem zly {b : Nat} {bf : Option Nat} {l : List UInt8} {w : ByteArray} (ws : List Wd) {n : Nat} (hP : zl7 H0) (h : Hp H0 H (wrt b bf l :: L)) (hw : w.size ≠ 0 ∧ w.size ≤ 10000) (hws : ∀ d ∈ ws, d.Ok) (hn : ws.length ≤ 10) (hnn : ws.length = n) (hl : l.length ≤ 9000000000000) (Q : V → Heap → Prop)
    (hQ : ∀ bf' H', Hp H0 H' (wrt b bf' (l ++ zer w ws) :: L) → Q (.tuple #[]) H') : wp (z6 zjj zf6 zjk [ptr b 0, .string w, slc H.next 0 1 n n]) Q (H.push (some (.cells true (zbo ws)))) := by
  have s1 := (h.newo (α := Wd) (n := 1) (m := n) ws rfl hnn).perm (List.Perm.swap _ _ _)
  exact zbi1 hP s1 hw hws hn hl Q fun bf' H' s2 => hQ bf' H' (s2.sub (by simp))
theorem zbq5 {b : Nat} {bf : Option Nat} {l : List UInt8} {w : ByteArray} (hP : zl7 H0) (h : Hp H0 H (wrt b bf l :: L)) (hw : w.size ≠ 0 ∧ w.size ≤ 10000) (hl : l.length ≤ 9000000000000) (Q : V → Heap → Prop)
    (hQ : ∀ bf' H', Hp H0 H' (wrt b bf' (l ++ zer w []) :: L) → Q (.tuple #[]) H') : wp (z6 zjj zf6 zjk [ptr b 0, .string w, .slice none 0 0]) Q H := by
  have s1 := (h.nilo (α := Wd)).perm (List.Perm.swap _ _ _)
  exact zbi1 hP s1 hw (by simp) (by simp) hl Q fun bf' H' s2 => hQ bf' H' (s2.sub (by simp))
theorem z1w {Q : V → Heap → Prop} (c : Bool) (a b : ByteArray) : wp (zh1 [.bool c, .string a, .string b]) Q H ↔ Q (.string (if c then a else b)) H := by
  show wp (zv2 (.bool c) (.string a) (.string b)) Q H ↔ _
  unfold zv2
  cases c
  · (try simp (maxSteps := 1000000) (disch := first | omega | (simp only [Z3]; omega) | (simp; done) | assumption | decide | (apply not_not_intro; assumption)) only [ZB, ztz])
    first | done | exact Iff.rfl
  · (try simp (maxSteps := 1000000) (disch := first | omega | (simp only [Z3]; omega) | (simp; done) | assumption | decide | (apply not_not_intro; assumption)) only [ZB, ztz])
    first | done | exact Iff.rfl
theorem zhb {α : Type} {l : List α} {d : α} {j : Nat} (h : j < l.length) : l.take (j + 1) = l.take j ++ [l.getD j d] := by
  rw [List.getD_eq_getElem?_getD, List.getElem?_eq_getElem h]; exact List.take_succ_eq_append_getElem h
theorem zdf {α : Type} {f : α → List UInt8} {m : Nat} : ∀ {l : List α}, (∀ x ∈ l, (f x).length ≤ m) → (l.flatMap f).length ≤ m * l.length
  | [], _ => by simp
  | x :: l, h => by
    have h1 := h x (by simp)
    have h2 := zdf (l := l) (fun y hy => h y (by simp [hy]))
    rw [List.flatMap_cons, List.length_append, List.length_cons, Nat.mul_add]
    omega
theorem zdo {w : ByteArray} {ws : List Wd} (hw : w.size ≤ 10000) (hws : ∀ d ∈ ws, d.Ok) (hn : ws.length ≤ 4) : (zer w ws).length ≤ 60000 := by
  have h1 := z4n hws
  have h2 := z6t w
  simp only [zer, List.length_append, List.length_cons, List.length_nil]
  omega
theorem zpl {t : Int} (h0 : 1 ≤ t) (h1 : t ≤ 3) : (Wd.s (zw4 t)).Ok := by
  obtain rfl | rfl | rfl : t = 1 ∨ t = 2 ∨ t = 3 := by omega
  all_goals exact ⟨by decide, by decide⟩
theorem zber (hT : Tabs H) {t : Int} (h0 : 1 ≤ t) (h1 : t ≤ 3) : zma 4 1 (ptr gid_conf_types 0) (i64 t) = some (ptr gid_conf_types t.toNat) ∧ zis (H.get gid_conf_types) t.toNat = some (.string (zw4 t)) ∧ gid_conf_types < H.next := by
  obtain ⟨r, hg⟩ := hT.types
  rw [hg]
  obtain rfl | rfl | rfl : t = 1 ∨ t = 2 ∨ t = 3 := by omega
  all_goals exact ⟨rfl, rfl, Heap.get_lt hg⟩
theorem zrh {t u : Thing} (h : Hp H0 H (t :: u :: L)) : Hp H0 H (t :: L) := h.sub (List.Sublist.cons₂ _ (List.Sublist.cons _ (List.Sublist.refl _)))
theorem zso {t u : Thing} (h : Hp H0 H (t :: u :: L)) : Hp H0 H (u :: t :: L) := h.perm (List.Perm.swap _ _ _)
theorem zbvx {b P : Nat} {bf : Option Nat} {l : List UInt8} {x : SyV} {s : Sy} (hP : zl7 H0) (hT : Tabs H0) (hs : SysAt H0 x s) (hty : ∀ p ∈ s.pts, 1 ≤ p.typ ∧ p.typ ≤ 3) (hn : s.pts.length ≤ 64) (hl : l.length ≤ 1000000000) (h : Hp H0 H (wrt b bf l :: cel P (x.cs s) :: L)) (Q : Out → Heap → Prop)
    (hQ : ∀ bf' H', Hp H0 H' (wrt b bf' (l ++ s.pts.flatMap zye) :: cel P (x.cs s) :: L) → Q (.brk 0 [ptr b 0, ptr P 0]) H') :
    wp (zbj zb8 (zhd zjj zf6 zjk) [ptr b 0, ptr P 0, x.pv, i64 s.pts.length, i64 0]) Q H := by
  refine zck s.pts.length (by omega) (fun j vs H' => ∃ bf', vs = [ptr b 0, ptr P 0, x.pv, i64 s.pts.length, i64 j] ∧ Hp H0 H' (wrt b bf' (l ++ (s.pts.take j).flatMap zye) :: cel P (x.cs s) :: L)) ⟨bf, rfl, by simpa using h⟩ ?_
  rintro j vs H1 hj ⟨bf1, rfl, s1⟩
  by_cases hlt : j < s.pts.length
  case neg =>
    have : j = s.pts.length := by omega
    subst this
    rw [List.take_length] at s1
    (try simp (maxSteps := 1000000) (disch := first | omega | (simp only [Z3]; omega) | (simp; done) | assumption | decide | (apply not_not_intro; assumption)) only [ZB, zhd])
    exact hQ bf1 H1 s1
  have hp := s1.ro hs.pts
  have a1 := hp.addr' (n := 2) rfl (k := .i64) (i := j) (by omega) (by omega)
  rw [Int.toNat_natCast] at a1
  have d1 := fun Q => hp.ldn' (Q := Q) (n := 2) rfl hlt default
  have hty1 := hty _ (zby (d := default) hlt)
  have hacc : ((s.pts.take j).flatMap zye).length ≤ 60000 * (s.pts.take j).length := zdf fun p hp => zdo (by cases p.out <;> decide) (fun d hd => by
    simp only [List.mem_cons, List.not_mem_nil, or_false] at hd
    subst hd
    have := hty p (List.mem_of_mem_take hp)
    exact zpl this.1 this.2) (by simp)
  have htl : (s.pts.take j).length = j := by rw [List.length_take]; omega
  rw [htl] at hacc
  rw [zhb (d := default) hlt]
  simp only [List.flatMap_append, List.flatMap_cons, List.flatMap_nil, List.append_nil]
  generalize s.pts.getD j default = p at *
  obtain ⟨ty, out⟩ := p
  simp only at hty1
  (try simp (maxSteps := 1000000) (disch := first | omega | (simp only [Z3]; omega) | (simp; done) | assumption | decide | (apply not_not_intro; assumption)) only [ZA, zp, zo, zm, zl, zj, zi, zg, zf, zhd, zpu, a1, d1, zbkj])
  have s2 : Hp H0 (H1.push (some (.cells true [i64 ty, .bool out]))) (wrt b bf1 (l ++ (s.pts.take j).flatMap zye) :: cel H1.next [i64 ty, .bool out] :: cel P (x.cs s) :: L) := (s1.newc _).perm (List.Perm.swap _ _ _)
  generalize hH2 : H1.push (some (.cells true [i64 ty, .bool out])) = H2 at *
  generalize H1.next = X at *
  have g2 := s2.get (i := 1) rfl
  have kp : Keeps [] H2 (H2.push none) := Keeps.push _ _ _
  have gn : (H2.push none).get H2.next = none := Heap.get_push_self _ _
  have ln : H2.next < (H2.push none).next := by simp
  have gX := kp.get g2 (by simp)
  obtain ⟨tc1, tc2, tc3⟩ := zber ((hT.keep0 s2.keeps).keep0 kp) hty1.1 hty1.2
  rw [zuu, zzs]
  (try simp (maxSteps := 1000000) (disch := first | omega | (simp only [Z3]; omega) | (simp; done) | assumption | decide | (apply not_not_intro; assumption)) only [ZB, gX, tc1, tc2, z1w, zqv (bs := []) gn ln, Bool.and_true])
  refine z8k (cs := zbo [Wd.s (zw4 ty)]) gn ln (by decide) (by show zbs [Value.nilIface] _ = _; rw [zf rfl (by decide), zcg]; rfl) ?_
  rw [Heap.set_push_eq rfl]
  (try simp (maxSteps := 1000000) (disch := first | omega | (simp only [Z3]; omega) | (simp; done) | assumption | decide | (apply not_not_intro; assumption)) only [ZB])
  refine zly [.s (zw4 ty)] hP s2 (by cases out <;> decide) (fun d hd => by
    simp only [List.mem_cons, List.not_mem_nil, or_false] at hd
    subst hd
    exact zpl hty1.1 hty1.2) (by simp) rfl (by simp only [List.length_append]; omega) _ fun bf' H' s3 => ?_
  (try simp (maxSteps := 1000000) (disch := first | omega | (simp only [Z3]; omega) | (simp; done) | assumption | decide | (apply not_not_intro; assumption)) only [ZB, gX, tc1, tc2, zpt])
  exact ⟨hlt, bf', rfl, by
    have s4 := zrh s3
    rw [List.append_assoc] at s4
    exact s4⟩
end Go.AM.Cap
