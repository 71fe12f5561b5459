import Derived.Test.YtjchglndancedaaGreatDoorCfBt
import Derived.Test.YtjchglndancedaaGreatDoorCfZ
import Derived.Test.YtjchglndancedaaGreatDoorAmIn
set_option linter.all false
/- conf: ConfLines, the walk -/
set_option maxHeartbeats 16000000
namespace Go.AM.Cap
open Go.AM Go.Proofs
variable {H : Heap}
theorem zbi7 : ∀ l : List UInt8, (l.map UInt8.toBitVec).count 10#8 = l.count 10
  | [] => rfl
  | c :: l => by
    rw [List.map_cons, List.count_cons, List.count_cons, zbi7 l]
    by_cases h : c = 10
    · subst h; rfl
    · have h1 : (c.toBitVec == 10#8) = false := by
        rw [beq_eq_false_iff_ne]
        intro e
        exact h (UInt8.toBitVec_inj.1 e)
      have h2 : (c == 10) = false := by rw [beq_eq_false_iff_ne]; exact h
      rw [h1, h2]
theorem zbxj (l : List UInt8) : bv ⟨l.toArray⟩ = l.map UInt8.toBitVec := by simp [bv]
theorem zbtu (l : List UInt8) : (⟨l.toArray⟩ : ByteArray).size = l.length := by rw [← z6t]
theorem zbi8 {α : Type} {g : α → Nat} {d : α} {l : List α} {j : Nat} (h : j < l.length) : ((l.take (j + 1)).map g).sum = ((l.take j).map g).sum + g (l.getD j d) := by
  rw [zhb (d := d) h, List.map_append, List.sum_append]; simp
theorem zbgk {α : Type} {g : α → Nat} {m : Nat} : ∀ {l : List α}, (∀ x ∈ l, g x ≤ m) → (l.map g).sum ≤ m * l.length
  | [], _ => by simp
  | x :: l, h => by
    have h1 := h x (by simp)
    have h2 := zbgk (l := l) (fun y hy => h y (by simp [hy]))
    rw [List.map_cons, List.sum_cons, List.length_cons, Nat.mul_add]
    omega
theorem zbgl {α : Type} (g : α → Nat) : ∀ l : List α, (l.map fun x => 1 + g x).sum = l.length + (l.map g).sum
  | [] => rfl
  | x :: l => by rw [List.map_cons, List.map_cons, List.sum_cons, List.sum_cons, zbgl g l, List.length_cons]; omega
theorem zbrg {α : Type} (f g : α → Nat) (l : List α) : (l.map fun x => 1 + f x + g x).sum = l.length + (l.map fun x => f x + g x).sum := by
  rw [← zbgl (fun x => f x + g x) l]
  congr 1
  refine List.map_congr_left fun x _ => ?_
  omega
theorem zbrh {G S1 S2 S3 S4 S5 S6 S7 S8 : List V → M V} {a0 a1 : V} {uv : V} {ul : List Un} (hU : Units H uv ul) (hn : ul.length ≤ 100) (hb : ∀ u ∈ ul, u.ins.xs.length ≤ 32 ∧ u.outs.xs.length ≤ 32) (w : Nat) (hw : w ≤ 1000000000) (Q : Out → Heap → Prop)
    (hQ : ∀ H', Keeps [] H H' → Q (.brk 0 [a0, a1, i64 ((w + (ul.map fun u => u.ins.xs.length + u.outs.xs.length).sum : Nat) : Int)]) H') :
    wp (zbj zb8 (zi5 S1 G S2 S3 S4 S5 S6 S7 S8) [a0, a1, i64 (w : Int), uv, i64 ul.length, i64 0]) Q H := by
  refine zck ul.length (by omega) (fun j vs H' => vs = [a0, a1, i64 ((w + ((ul.take j).map fun u => u.ins.xs.length + u.outs.xs.length).sum : Nat) : Int), uv, i64 ul.length, i64 j] ∧ Keeps [] H H') ⟨by simp, Keeps.refl _ _⟩ ?_
  rintro j vs H1 hj ⟨rfl, k1⟩
  by_cases hlt : j < ul.length
  case neg =>
    have : j = ul.length := by omega
    subst this
    rw [List.take_length]
    (try simp (maxSteps := 1000000) (disch := first | omega | (simp only [Z3]; omega) | (simp; done) | assumption | decide | (apply not_not_intro; assumption)) only [ZB, zi5])
    exact hQ H1 k1
  have hu1 := hU.keep0 k1
  have b1 := hu1.out.addr' (n := 2) rfl (k := .i64) (i := j) (by omega) (by omega)
  rw [Int.toNat_natCast] at b1
  have d1 := fun Q => hu1.out.ldn' (Q := Q) (n := 2) rfl hlt default
  have hat := hu1.at hlt
  have hbj := hb _ (zby (d := default) hlt)
  have hs := zbgk (l := ul.take j) (g := fun u => u.ins.xs.length + u.outs.xs.length) (m := 64) fun u hu => by have := hb u (List.mem_of_mem_take hu); omega
  have htl : (ul.take j).length = j := by rw [List.length_take]; omega
  rw [htl] at hs
  rw [zbi8 (d := default) hlt]
  generalize ul.getD j default = u at *
  have l1 := hat.1.len
  have l2 := hat.2.len
  have hone : ([u.ins.v, u.outs.v] : List V).all Value.isOne = true := by simp [u.ins.one, u.outs.one]
  generalize ((ul.take j).map fun u => u.ins.xs.length + u.outs.xs.length).sum = z at *
  (try simp (maxSteps := 1000000) (disch := first | omega | (simp only [Z3]; omega) | (simp; done) | assumption | decide | (apply not_not_intro; assumption)) only [ZA, zp, zo, zm, zl, zj, zi, zg, zf, zi5, zt1, b1, d1, zbb3, l1, l2, zt0])
  have kp : Keeps [] H1 (H1.push (some (.cells true [u.ins.v, u.outs.v]))) := Keeps.push _ _ _
  refine ⟨hlt, ?_, k1.trans kp (fun _ _ h => h)⟩
  have e : ((w + z : Nat) : Int) + ((u.ins.xs.length : Int) + (u.outs.xs.length : Int)) = ((w + (z + (u.ins.xs.length + u.outs.xs.length)) : Nat) : Int) := by push_cast; omega
  first | rw [e] | simp only [← e] | (push_cast at e ⊢; simp only [e]) | skip
  all_goals (try rfl)
  all_goals (try (push_cast; simp only [Int.add_assoc]; rfl))
theorem zbri {G S1 S2 S3 S4 S5 S6 S7 S8 : List V → M V} {a1 : V} {v : V} {ul : List Us} (hU : Users H v ul) (hn : ul.length ≤ 8) (w : Nat) (hw : w ≤ 2000000000) (Q : Out → Heap → Prop)
    (hQ : ∀ H', Keeps [] H H' → Q (.brk 2 [a1, i64 ((w + (ul.map fun u => u.rs.xs.length).sum : Nat) : Int)]) H') :
    wp (zbj zb8 (zi6 S1 G S2 S3 S4 S5 S6 S7 S8) [a1, i64 (w : Int), v, i64 ul.length, i64 0]) Q H := by
  refine zck ul.length (by omega) (fun j vs H' => vs = [a1, i64 ((w + ((ul.take j).map fun u => u.rs.xs.length).sum : Nat) : Int), v, i64 ul.length, i64 j] ∧ Keeps [] H H') ⟨by simp, Keeps.refl _ _⟩ ?_
  rintro j vs H1 hj ⟨rfl, k1⟩
  by_cases hlt : j < ul.length
  case neg =>
    have : j = ul.length := by omega
    subst this
    rw [List.take_length]
    (try simp (maxSteps := 1000000) (disch := first | omega | (simp only [Z3]; omega) | (simp; done) | assumption | decide | (apply not_not_intro; assumption)) only [ZB, zi6])
    exact hQ H1 k1
  have hu1 := hU.keep0 k1
  have b1 := hu1.out.addr' (n := 3) rfl (k := .i64) (i := j) (by omega) (by omega)
  rw [Int.toNat_natCast] at b1
  have d1 := fun Q => hu1.out.ldn' (Q := Q) (n := 3) rfl hlt default
  have hat := hu1.at hlt
  have hs := zbgk (l := ul.take j) (g := fun u => u.rs.xs.length) (m := 1048576) fun u hu => (hU.inn u (List.mem_of_mem_take hu)).2
  have htl : (ul.take j).length = j := by rw [List.length_take]; omega
  rw [htl] at hs
  rw [zbi8 (d := default) hlt]
  generalize ul.getD j default = u at *
  have l1 := hat.1.len
  have l2 := hat.2
  have hone := z4i u
  generalize ((ul.take j).map fun u => u.rs.xs.length).sum = z at *
  (try simp (maxSteps := 1000000) (disch := first | omega | (simp only [Z3]; omega) | (simp; done) | assumption | decide | (apply not_not_intro; assumption)) only [ZA, zp, zo, zm, zl, zj, zi, zg, zf, zi6, zt3, b1, d1, z0z, l1, zt2])
  have kp : Keeps [] H1 (H1.push (some (.cells true [.string u.name, .string u.key, u.rs.v]))) := Keeps.push _ _ _
  refine ⟨hlt, ?_, k1.trans kp (fun _ _ h => h)⟩
  have e : ((w + z : Nat) : Int) + (u.rs.xs.length : Int) = ((w + (z + u.rs.xs.length) : Nat) : Int) := by push_cast; omega
  first | rw [e] | simp only [← e] | (push_cast at e ⊢; simp only [e]) | skip
  all_goals (try rfl)
theorem zbtv {G S1 S2 S3 S4 S5 S6 S7 S8 : List V → M V} {a1 : V} (s : ByteArray) (hs : s.size ≤ 1000000) (Q : Out → Heap → Prop) (hQ : Q (.brk 4 [.string s, a1, i64 (((bv s).count 10#8 : Nat) : Int)]) H) :
    wp (zbj zb8 (zg9 S1 G S2 S3 S4 S5 S6 S7 S8) [.string s, a1, i64 0, i64 s.size, i64 0]) Q H := by
  refine zck s.size (by omega) (fun j vs H' => vs = [.string s, a1, i64 ((((bv s).take j).count 10#8 : Nat) : Int), i64 s.size, i64 j] ∧ H' = H) ⟨by simp, rfl⟩ ?_
  rintro j vs H1 hj ⟨rfl, rfl⟩
  have hbl := zc1 s
  by_cases hlt : j < s.size
  case neg =>
    have : j = s.size := by omega
    subst this
    rw [List.take_of_length_le (by omega)]
    (try simp (maxSteps := 1000000) (disch := first | omega | (simp only [Z3]; omega) | (simp; done) | assumption | decide | (apply not_not_intro; assumption)) only [ZB, zg9])
    exact hQ
  have ix := zqg (s := s) (k := .i64) (i := j) (by omega) (by omega)
  rw [Int.toNat_natCast] at ix
  have e10 : (Value.int .u8 10 : V) = B 10#8 := rfl
  have hc : ((bv s).take j).count 10#8 ≤ ((bv s).take j).length := List.count_le_length
  rw [List.length_take] at hc
  rw [zhb (d := 0) (by omega), List.count_append, List.count_cons, List.count_nil]
  generalize ((bv s).take j).count 10#8 = z at *
  by_cases c : (bv s).getD j 0 = 10#8
  · have e2 : decide ((((bv s).getD j 0).toNat : Int) = ((10#8).toNat : Int)) = true := decide_eq_true (by rw [c])
    rw [c]
    rw [c] at ix e2
    (try simp (maxSteps := 1000000) (disch := first | omega | (simp only [Z3]; omega) | (simp; done) | assumption | decide | (apply not_not_intro; assumption)) only [ZB, zg9, znn, ix, e10, e2, znm])
    exact ⟨hlt, by first | rfl | (simp; done) | (push_cast; rfl), trivial⟩
  · have e2 : decide ((((bv s).getD j 0).toNat : Int) = ((10#8).toNat : Int)) = false := decide_eq_false (fun q => c (BitVec.eq_of_toNat_eq (by omega)))
    have h1 : ((bv s).getD j 0 == 10#8) = false := by rw [beq_eq_false_iff_ne]; exact c
    rw [h1]
    (try simp (maxSteps := 1000000) (disch := first | omega | (simp only [Z3]; omega) | (simp; done) | assumption | decide | (apply not_not_intro; assumption)) only [ZB, zg9, znn, ix, e10, e2, znm])
    exact ⟨hlt, by first | rfl | (simp; done) | (push_cast; rfl), trivial⟩
end Go.AM.Cap

/- conf: ConfLines -/
set_option maxHeartbeats 16000000
namespace Go.AM.Cap
open Go.AM Go.Proofs
variable {H : Heap}
theorem conflines_ok {G : List V → M V} {x : SyV} {v : V} {l : List Us} {s : Se3} (hP : zl7 H) (hT : Tabs H) (hs : SysAt H x s.sy) (hu : Users H v l) (hp : l.map Us.p = s.us) (Q : V → Heap → Prop) (hQ : ∀ H', Q (.bool true) H') :
    wp (zu2 znp G zcq zum zjj zf6 zjk zy7 zy8 [.agg (x.cs s.sy ++ [v, i64 s.idle]).toArray]) Q H := by
  show wp (zpf znp G zcq zum zjj zf6 zjk zy7 zy8 (.agg (x.cs s.sy ++ [v, i64 s.idle]).toArray)) Q H
  have ho : (x.cs s.sy ++ [v, i64 s.idle]).all Value.isOne = true := by rw [List.all_append, hs.one]; simp [hu.out.isOne]
  have ho7 := hs.one
  obtain ⟨ul, hU, hul⟩ := hs.uns
  have s1 : Hp H (H.push (some (.cells true (x.cs s.sy ++ [v, i64 s.idle])))) [cel H.next (x.cs s.sy ++ [v, i64 s.idle])] := (Hp.start H).newc _
  have shw : ∀ (K : Heap), Keeps [] H K → s.sy.grs.length ≤ 200 → ∀ Q', (∀ H', Keeps [] K H' → Q' (.tuple #[.string (z1b s).1, i64 (z1b s).2]) H') → wp (zq4 G zjj zf6 zjk zy7 zy8 [.agg (x.cs s.sy ++ [v, i64 s.idle]).toArray]) Q' K := fun K hk hg Q' h =>
    zbtp (hP.keep0 hk) (hT.keep0 hk) (hs.keep0 hk) (hu.keep0 hk) hp (fun hn => zbmd hn (by omega)) Q' h
  unfold zpf
  rw [z8, z8]
  refine (zc5 ho).mpr ?_
  have c1 : (x.cs s.sy ++ [v, i64 s.idle])[1]? = some x.gv := rfl
  have c7 : (x.cs s.sy ++ [v, i64 s.idle])[7]? = some v := rfl
  have h9 : (x.cs s.sy ++ [v, i64 s.idle]).length = 9 := rfl
  have d7 : ∀ {K : Heap} (P : Nat), K.get P = some (.cells true (x.cs s.sy ++ [v, i64 s.idle])) → ∀ Q, wp (ldn 7 (ptr P 0)) Q K ↔ Q (.agg [x.pv, x.gv, x.qv, i64 s.sy.frame, x.wv, x.uv, i64 s.sy.millis].toArray) K := fun P hg Q => by
    rw [zca, hg, zxh (by show 0 + 7 ≤ 9; omega)]
    rfl
  have ho7' : ([x.pv, x.gv, x.qv, i64 s.sy.frame, x.wv, x.uv, i64 s.sy.millis] : List V).all Value.isOne = true := ho7
  generalize x.cs s.sy ++ [v, i64 s.idle] = cs at *
  generalize H.push (some (.cells true cs)) = H1 at *
  generalize H.next = P at *
  simp only [z8]
  refine zbqs (hT.keep0 s1.keeps) _ fun H2 k2 => ?_
  have s2 := s1.keep0 k2
  have g2 := s2.get (i := 0) rfl
  have l0 := hs.pts.len
  have l1 := hs.grs.len
  have l2 := hs.prs.len
  have l3 := hs.wins.len
  have l4 := hU.out.len
  have lv := hu.out.len
  have hln : s.sy.uns.length = ul.length := by rw [← hul, List.length_map]
  have hsm := hs.small
  by_cases hg : s.sy.grs.length > 200
  · have e1 : decide ((s.sy.grs.length : Int) > 200) = true := decide_eq_true (by omega)
    (try simp (maxSteps := 1000000) (disch := first | omega | (simp only [Z3]; omega) | (simp; done) | assumption | decide | (apply not_not_intro; assumption)) only [ZB, zml, g2, c1, l1, e1])
    exact hQ _
  have e1 : decide ((s.sy.grs.length : Int) > 200) = false := decide_eq_false (by omega)
  have d9 := fun Q => zbd (n := 9) (Q := Q) g2 h9
  (try simp (maxSteps := 1000000) (disch := first | omega | (simp only [Z3]; omega) | (simp; done) | assumption | decide | (apply not_not_intro; assumption)) only [ZA, zp, zo, zm, zl, zj, zi, zg, zf, zml, g2, c1, l1, e1, zry, d9])
  refine shw H2 s2.keeps (by omega) _ fun H3 k3 => ?_
  have s3 := s2.keep0 k3
  have g3 := s3.get (i := 0) rfl
  have t0 : decide (zji = (⟨#[]⟩ : ByteArray)) = true := by decide
  by_cases hn : zv4 s.sy s.us s.idle = 0
  case neg =>
    have hsh : z1b s = (zji, zv4 s.sy s.us s.idle) := by rw [z1b, if_pos hn]
    rw [hsh]
    have e2 : decide (zv4 s.sy s.us s.idle ≠ 0) = true := decide_eq_true hn
    (try simp (maxSteps := 1000000) (disch := first | omega | (simp only [Z3]; omega) | (simp; done) | assumption | decide | (apply not_not_intro; assumption)) only [ZB, e2, t0])
    exact hQ _
  by_cases hlen : (zl8 s).length > 65536
  · have hsh : z1b s = (zji, 2) := by rw [z1b, if_neg (fun q => q hn), if_pos hlen]
    rw [hsh]
    have e2 : decide ((2 : Int) ≠ 0) = true := by decide
    (try simp (maxSteps := 1000000) (disch := first | omega | (simp only [Z3]; omega) | (simp; done) | assumption | decide | (apply not_not_intro; assumption)) only [ZB, e2, t0])
    exact hQ _
  have hsh : z1b s = (⟨(zl8 s).toArray⟩, 0) := by rw [z1b, if_neg (fun q => q hn), if_neg hlen]
  rw [hsh]
  obtain ⟨oks, oku, okn, okm, okf, oki⟩ := zbmd hn (by omega)
  have hnm : ∀ u ∈ s.us, zrf u.name = true := fun u hm => ((zbrd (zbmc hn).2.1).2 u hm).1
  have hcount := zbk6 hnm
  have hends := zbod s
  have hne : zl8 s ≠ [] := by simp [zl8, z6u, zer]
  have hz := zbtu (zl8 s)
  have hbvm := zbxj (zl8 s)
  have hcb := zbi7 (zl8 s)
  rw [← hbvm, hcount] at hcb
  have hlast : (bv ⟨(zl8 s).toArray⟩).getD ((zl8 s).length - 1) 0 = 10#8 := by
    rcases hends with q | ⟨m, q⟩
    · exact absurd q hne
    · rw [hbvm, q, List.map_append, List.length_append, List.getD_eq_getElem?_getD, List.getElem?_append_right (by simp)]
      simp
  generalize hT2 : (⟨(zl8 s).toArray⟩ : ByteArray) = T at *
  have hT0 : T.size ≠ 0 := by
    rw [hz]
    intro q
    exact hne (List.eq_nil_of_length_eq_zero q)
  have e2 : decide ((0 : Int) ≠ 0) = false := by decide
  have o1 := oks.pts; have o2 := oks.grn; have o3 := oks.prn; have o4 := oks.win; have o5 := oks.unn
  have hl8 : l.length ≤ 8 := by rw [← hp, List.length_map] at okn; exact okn
  have d73 := d7 P g3
  (try simp (maxSteps := 1000000) (disch := first | omega | (simp only [Z3]; omega) | (simp; done) | assumption | decide | (apply not_not_intro; assumption)) only [ZA, zp, zo, zm, zl, zj, zi, zg, zf, e2, zrx, d73, l0, l1, l2, l3, l4, lv, g3, c7])
  have s4 := s3.newc [x.pv, x.gv, x.qv, i64 s.sy.frame, x.wv, x.uv, i64 s.sy.millis]
  generalize H3.push (some (.cells true [x.pv, x.gv, x.qv, i64 s.sy.frame, x.wv, x.uv, i64 s.sy.millis])) = H4 at *
  generalize H3.next = Y at *
  have g4 := s4.get (i := 0) rfl
  have g4' := s4.get (i := 1) rfl
  (try simp (maxSteps := 1000000) (disch := first | omega | (simp only [Z3]; omega) | (simp; done) | assumption | decide | (apply not_not_intro; assumption)) only [ZB, g4', c7, lv])
  have ew : (3 + (s.sy.pts.length : Int) + (s.sy.grs.length : Int) + (s.sy.prs.length : Int) + (s.sy.wins.length : Int) + (ul.length : Int) + (l.length : Int) : Int) = ((3 + s.sy.pts.length + s.sy.grs.length + s.sy.prs.length + s.sy.wins.length + ul.length + l.length : Nat) : Int) := by push_cast; rfl
  rw [ew]
  have hub : ∀ u ∈ ul, u.ins.xs.length ≤ 32 ∧ u.outs.xs.length ≤ 32 := fun u hm => by
    obtain ⟨r1, r2, _⟩ := oks.uns u.p (by rw [← hul]; exact List.mem_map_of_mem hm)
    exact ⟨r1, r2⟩
  have hs1 := zbgk (l := ul) (g := fun u => u.ins.xs.length + u.outs.xs.length) (m := 64) fun u hm => by have := hub u hm; omega
  refine zbrh (hU.keep0 s4.keeps) (by omega) hub _ (by omega) _ fun H5 k5 => ?_
  have s5 := s4.keep0 k5
  have g5 := s5.get (i := 1) rfl
  (try simp (maxSteps := 1000000) (disch := first | omega | (simp only [Z3]; omega) | (simp; done) | assumption | decide | (apply not_not_intro; assumption)) only [ZB, zrw, g5, c7, lv])
  refine zbri (hu.keep0 s5.keeps) hl8 _ (by omega) _ fun H6 k6 => ?_
  (try simp (maxSteps := 1000000) (disch := first | omega | (simp only [Z3]; omega) | (simp; done) | assumption | decide | (apply not_not_intro; assumption)) only [ZB, zrv])
  refine zbtv T (by omega) _ ?_
  rw [hcb]
  have hwant : zbcw s = 3 + s.sy.pts.length + s.sy.grs.length + s.sy.prs.length + s.sy.wins.length + ul.length + l.length + (ul.map fun u => u.ins.xs.length + u.outs.xs.length).sum + (l.map fun u => u.rs.xs.length).sum := by
    have e1 : (s.sy.uns.map fun u => 1 + u.ins.length + u.outs.length).sum = ul.length + (ul.map fun u => u.ins.xs.length + u.outs.xs.length).sum := by
      rw [← hul, List.map_map]
      exact zbrg (fun u : Un => u.ins.xs.length) (fun u => u.outs.xs.length) ul
    have e2 : (s.us.map fun u => 1 + u.rs.length).sum = l.length + (l.map fun u => u.rs.xs.length).sum := by
      rw [← hp, List.map_map]
      exact zbgl (fun u : Us => u.rs.xs.length) l
    rw [zbcw, e1, e2]
    omega
  have heq : decide (((zbcw s : Nat) : Int) = ((3 + s.sy.pts.length + s.sy.grs.length + s.sy.prs.length + s.sy.wins.length + ul.length + l.length + (ul.map fun u => u.ins.xs.length + u.outs.xs.length).sum + (l.map fun u => u.rs.xs.length).sum : Nat) : Int)) = true := decide_eq_true (by rw [hwant])
  have ix := zqg (s := T) (k := .i64) (i := (T.size : Int) - 1) (by omega) (by omega)
  rw [show ((T.size : Int) - 1).toNat = (zl8 s).length - 1 by omega, hlast] at ix
  have e10 : (Value.int .u8 10 : V) = B 10#8 := rfl
  have e3 : decide ((((10#8 : BitVec 8).toNat : Nat) : Int) = ((10#8).toNat : Int)) = true := by decide
  (try simp (maxSteps := 1000000) (disch := first | omega | (simp only [Z3]; omega) | (simp; done) | assumption | decide | (apply not_not_intro; assumption)) only [ZB, zt4, heq, ix, e10, e3])
  exact hQ _
end Go.AM.Cap
