import Derived.Test.YtjchglndancedaaGreatDoorCfBr
import Derived.Test.YtjchglndancedaaGreatDoorCfZ
import Derived.Test.YtjchglndancedaaGreatDoorShaF
import Derived.Test.YtjchglndancedaaGreatDoorAmIn
set_option linter.all false
/- conf: a system's lines; Show -/
set_option maxHeartbeats 16000000
namespace Go.AM.Cap
open Go.AM Go.Proofs
variable {H0 H : Heap} {L : List Thing}
structure ShOk (s : Sy) : Prop where
  pts : s.pts.length ≤ 64
  typ : ∀ p ∈ s.pts, 1 ≤ p.typ ∧ p.typ ≤ 3
  grn : s.grs.length ≤ 1000
  grs : ∀ g ∈ s.grs, zej g.part ∧ zej g.point
  prn : s.prs.length ≤ 1000
  prs : ∀ q ∈ s.prs, zej q.src ∧ zej q.dst ∧ zej q.cap ∧ 1 ≤ q.typ ∧ q.typ ≤ 3
  win : s.wins.length ≤ 1000
  wins : ∀ w ∈ s.wins, zej w.part ∧ zej w.start ∧ zej w.len
  unn : s.uns.length ≤ 100
  uns : ∀ u ∈ s.uns, UnOk u
theorem zbcn {p : Pt} (h : 1 ≤ p.typ ∧ p.typ ≤ 3) : (zye p).length ≤ 60000 := zdo (by cases p.out <;> decide) (fun d hd => by
  simp only [List.mem_cons, List.not_mem_nil, or_false] at hd
  subst hd
  exact zpl h.1 h.2) (by simp)
theorem zbco {g : Gr} (h : zej g.part ∧ zej g.point) : (zyf g).length ≤ 60000 := zdo (by cases g.write <;> decide) (fun d hd => by
  simp only [List.mem_cons, List.not_mem_nil, or_false] at hd
  rcases hd with rfl | rfl
  · exact h.1
  · exact h.2) (by simp)
theorem zbcp {q : Port} (h : zej q.src ∧ zej q.dst ∧ zej q.cap ∧ 1 ≤ q.typ ∧ q.typ ≤ 3) : (znq q).length ≤ 60000 := by
  obtain ⟨q1, q2, q3, q4, q5⟩ := h
  unfold znq
  split
  · exact zdo (by decide) (fun d hd => by
      simp only [List.mem_cons, List.not_mem_nil, or_false] at hd
      rcases hd with rfl | rfl | rfl
      · exact q1
      · exact q2
      · exact zpl q4 q5) (by simp)
  · exact zdo (by decide) (fun d hd => by
      simp only [List.mem_cons, List.not_mem_nil, or_false] at hd
      rcases hd with rfl | rfl | rfl | rfl
      · exact q1
      · exact q2
      · exact zpl q4 q5
      · exact q3) (by simp)
theorem zbcq {w : Win} (h : zej w.part ∧ zej w.start ∧ zej w.len) : (znr w).length ≤ 60000 := by
  obtain ⟨q1, q2, q3⟩ := h
  unfold znr
  split
  · exact zdo (by decide) (fun d hd => by
      simp only [List.mem_cons, List.not_mem_nil, or_false] at hd
      rcases hd with rfl | rfl
      · exact q2
      · exact q3) (by simp)
  · exact zdo (by decide) (fun d hd => by
      simp only [List.mem_cons, List.not_mem_nil, or_false] at hd
      rcases hd with rfl | rfl | rfl
      · exact q1
      · exact q2
      · exact q3) (by simp)
theorem zbgi {s : Sy} (h : ShOk s) : (zua s).length ≤ 700000000 := by
  have a1 := zdf (f := zye) (m := 60000) fun p hp => zbcn (h.typ p hp)
  have a2 := zdf (f := zyf) (m := 60000) fun p hp => zbco (h.grs p hp)
  have a3 := zdf (f := znq) (m := 60000) fun p hp => zbcp (h.prs p hp)
  have a4 := zdf (f := znr) (m := 60000) fun p hp => zbcq (h.wins p hp)
  have a5 := zdf (f := zpk) (m := 4000000) fun p hp => by
    obtain ⟨r1, r2, r3, r4⟩ := h.uns p hp
    exact z89 r1 r2 r3 r4
  have := h.pts; have := h.grn; have := h.prn; have := h.win; have := h.unn
  simp only [zua, List.length_append]
  omega
theorem zboa {b : Nat} {bf : Option Nat} {l : List UInt8} {x : SyV} {s : Sy} (hP : zl7 H0) (hT : Tabs H0) (hs : SysAt H0 x s) (ok : ShOk s) (hl : l.length ≤ 200000000) (h : Hp H0 H (wrt b bf l :: L)) (Q : V → Heap → Prop)
    (hQ : ∀ bf' H', Hp H0 H' (wrt b bf' (l ++ zua s) :: L) → Q (.tuple #[]) H') : wp (zhs zjj zf6 zjk [ptr b 0, .agg (x.cs s).toArray]) Q H := by
  show wp (zla zjj zf6 zjk (ptr b 0) (.agg (x.cs s).toArray)) Q H
  have ho := hs.one
  obtain ⟨ul, hU, hul⟩ := hs.uns
  have hlen : s.uns.length = ul.length := by rw [← hul, List.length_map]
  have l0 := hs.pts.len
  have l1 := hs.grs.len
  have l2 := hs.prs.len
  have l3 := hs.wins.len
  have l4 := hU.out.len
  rw [← hlen] at l4
  have a1 := zdf (f := zye) (m := 60000) fun p hp => zbcn (ok.typ p hp)
  have a2 := zdf (f := zyf) (m := 60000) fun p hp => zbco (ok.grs p hp)
  have a3 := zdf (f := znq) (m := 60000) fun p hp => zbcp (ok.prs p hp)
  have a4 := zdf (f := znr) (m := 60000) fun p hp => zbcq (ok.wins p hp)
  have o1 := ok.pts; have o2 := ok.grn; have o3 := ok.prn; have o4 := ok.win; have o5 := ok.unn
  have s1 : Hp H0 (H.push (some (.cells true (x.cs s)))) (wrt b bf l :: cel H.next (x.cs s) :: L) := zso (h.newc _)
  unfold zla
  rw [z8, z8]
  refine (zc5 ho).mpr ?_
  generalize H.push (some (.cells true (x.cs s))) = H1 at *
  generalize H.next = P at *
  have c0 : (x.cs s)[0]? = some x.pv := rfl
  have c1 : (x.cs s)[1]? = some x.gv := rfl
  have c2 : (x.cs s)[2]? = some x.qv := rfl
  have c4 : (x.cs s)[4]? = some x.wv := rfl
  have c5 : (x.cs s)[5]? = some x.uv := rfl
  have g1 := s1.get (i := 1) rfl
  (try simp (maxSteps := 1000000) (disch := first | omega | (simp only [Z3]; omega) | (simp; done) | assumption | decide | (apply not_not_intro; assumption)) only [ZB, g1, c0, l0])
  refine zbvx hP hT hs ok.typ ok.pts (by omega) s1 _ fun bf2 H2 s2 => ?_
  have g2 := s2.get (i := 1) rfl
  (try simp (maxSteps := 1000000) (disch := first | omega | (simp only [Z3]; omega) | (simp; done) | assumption | decide | (apply not_not_intro; assumption)) only [ZB, zpe, g2, c1, l1])
  refine zbvy hP hs ok.grs ok.grn (by simp only [List.length_append]; omega) s2 _ fun bf3 H3 s3 => ?_
  have g3 := s3.get (i := 1) rfl
  (try simp (maxSteps := 1000000) (disch := first | omega | (simp only [Z3]; omega) | (simp; done) | assumption | decide | (apply not_not_intro; assumption)) only [ZB, zpd, g3, c2, l2])
  refine zbvz hP hT hs ok.prs ok.prn (by simp only [List.length_append]; omega) s3 _ fun bf4 H4 s4 => ?_
  have g4 := s4.get (i := 1) rfl
  (try simp (maxSteps := 1000000) (disch := first | omega | (simp only [Z3]; omega) | (simp; done) | assumption | decide | (apply not_not_intro; assumption)) only [ZB, zpc, g4, c4, l3])
  refine zbtm hP hs ok.wins ok.win (by simp only [List.length_append]; omega) s4 _ fun bf5 H5 s5 => ?_
  have g5 := s5.get (i := 1) rfl
  (try simp (maxSteps := 1000000) (disch := first | omega | (simp only [Z3]; omega) | (simp; done) | assumption | decide | (apply not_not_intro; assumption)) only [ZB, zpb, g5, c5, l4])
  refine zbv2 hP hs ok.uns ok.unn (by simp only [List.length_append]; omega) s5 _ fun bf6 H6 s6 => ?_
  have s7 := zrh s6
  (try simp (maxSteps := 1000000) (disch := first | omega | (simp only [Z3]; omega) | (simp; done) | assumption | decide | (apply not_not_intro; assumption)) only [ZB])
  refine hQ bf6 H6 ?_
  simp only [List.append_assoc] at s7
  simp only [zua, List.append_assoc]
  exact s7
def z79 (k : ByteArray) : ByteArray := sv (hexl (bv k))
def z1a (r : Rl) : List UInt8 := zer zblt [.n r.part, .s (levW r.level)]
def zqq (u : PUs) : List UInt8 := zer zbcb [.s u.name, .s (z79 u.key)] ++ u.rs.flatMap z1a
def z6u (s : Se3) : List UInt8 := zer zh8 [.n s.sy.millis] ++ zer zlc [.n s.sy.frame] ++ zer zrz [.n s.idle]
def zl8 (s : Se3) : List UInt8 := z6u s ++ zua s.sy ++ s.us.flatMap zqq
def z1b (s : Se3) : ByteArray × Int := if zv4 s.sy s.us s.idle ≠ 0 then (zji, zv4 s.sy s.us s.idle) else if (zl8 s).length > 65536 then (zji, 2) else (⟨(zl8 s).toArray⟩, 0)
structure UsOk (u : PUs) : Prop where
  name : u.name.size ≠ 0 ∧ u.name.size ≤ 24
  key : 16 ≤ u.key.size ∧ u.key.size ≤ 64
  rs : ∀ r ∈ u.rs, zej r.part ∧ 1 ≤ r.level ∧ r.level ≤ 4
theorem zbq7 {t : Int} (h0 : 1 ≤ t) (h1 : t ≤ 4) : (Wd.s (levW t)).Ok := by
  obtain rfl | rfl | rfl | rfl : t = 1 ∨ t = 2 ∨ t = 3 ∨ t = 4 := by omega
  all_goals exact ⟨by decide, by decide⟩
theorem zbq8 (hT : Tabs H) {t : Int} (h0 : 1 ≤ t) (h1 : t ≤ 4) : zma 5 1 (ptr gid_conf_levels 0) (i64 t) = some (ptr gid_conf_levels t.toNat) ∧ zis (H.get gid_conf_levels) t.toNat = some (.string (levW t)) := by
  obtain ⟨r, hg⟩ := hT.levels
  rw [hg]
  obtain rfl | rfl | rfl | rfl : t = 1 ∨ t = 2 ∨ t = 3 ∨ t = 4 := by omega
  all_goals exact ⟨rfl, rfl⟩
theorem zbcr {r : Rl} (h : zej r.part ∧ 1 ≤ r.level ∧ r.level ≤ 4) : (z1a r).length ≤ 60000 := zdo (by decide) (fun d hd => by
  simp only [List.mem_cons, List.not_mem_nil, or_false] at hd
  rcases hd with rfl | rfl
  · exact h.1
  · exact zbq7 h.2.1 h.2.2) (by simp)
theorem zbgj {k : ByteArray} (h : 16 ≤ k.size ∧ k.size ≤ 64) : (Wd.s (z79 k)).Ok := by
  have : (z79 k).size = 2 * k.size := by rw [z79, z5g, z8i, zc1]
  exact ⟨by omega, by omega⟩
theorem zbq9 {G1 G4 : List V → M V} {b : Nat} {bf : Option Nat} {l : List UInt8} {v a1 a2 a3 : V} {rs : List Rl} (hP : zl7 H0) (hT : Tabs H0) (hv : Sl H0 v rs) (hb : ∀ r ∈ rs, zej r.part ∧ 1 ≤ r.level ∧ r.level ≤ 4) (hn : rs.length ≤ 1048576) (hl : l.length ≤ 1000000000000) (h : Hp H0 H (wrt b bf l :: L)) (Q : Out → Heap → Prop)
    (hQ : ∀ bf' H', Hp H0 H' (wrt b bf' (l ++ rs.flatMap z1a) :: L) → Q (.brk 2 [ptr b 0, a1, a2, a3]) H') :
    wp (zbj zb8 (zsj G1 zjj zf6 zjk zy7 zy8) [ptr b 0, a1, a2, a3, v, i64 rs.length, i64 0]) Q H := by
  refine zck rs.length (by omega) (fun j vs H' => ∃ bf', vs = [ptr b 0, a1, a2, a3, v, i64 rs.length, i64 j] ∧ Hp H0 H' (wrt b bf' (l ++ (rs.take j).flatMap z1a) :: L)) ⟨bf, rfl, by simpa using h⟩ ?_
  rintro j vs H1 hj ⟨bf1, rfl, s1⟩
  by_cases hlt : j < rs.length
  case neg =>
    have : j = rs.length := by omega
    subst this
    rw [List.take_length] at s1
    (try simp (maxSteps := 1000000) (disch := first | omega | (simp only [Z3]; omega) | (simp; done) | assumption | decide | (apply not_not_intro; assumption)) only [ZB, zsj])
    exact hQ bf1 H1 s1
  have hp := s1.ro hv
  have b1 := hp.addr' (n := 2) rfl (k := .i64) (i := j) (by omega) (by omega)
  rw [Int.toNat_natCast] at b1
  have d1 := fun Q => hp.ldn' (Q := Q) (n := 2) rfl hlt default
  have hg1 := hb _ (zby (d := default) hlt)
  have hacc : ((rs.take j).flatMap z1a).length ≤ 60000 * (rs.take j).length := zdf fun p hp => zbcr (hb p (List.mem_of_mem_take hp))
  have htl : (rs.take j).length = j := by rw [List.length_take]; omega
  rw [htl] at hacc
  rw [zhb (d := default) hlt]
  simp only [List.flatMap_append, List.flatMap_cons, List.flatMap_nil, List.append_nil]
  generalize rs.getD j default = g at *
  obtain ⟨pa, le⟩ := g
  simp only at hg1
  obtain ⟨q1, q2, q3⟩ := hg1
  (try simp (maxSteps := 1000000) (disch := first | omega | (simp only [Z3]; omega) | (simp; done) | assumption | decide | (apply not_not_intro; assumption)) only [ZA, zp, zo, zm, zl, zj, zi, zg, zf, zsj, z55, b1, d1, zbp1])
  have s2 : Hp H0 (H1.push (some (.cells true [i64 pa, i64 le]))) (wrt b bf1 (l ++ (rs.take j).flatMap z1a) :: cel H1.next [i64 pa, i64 le] :: L) := zso (s1.newc _)
  generalize hH2 : H1.push (some (.cells true [i64 pa, i64 le])) = H2 at *
  generalize H1.next = X at *
  have gX := s2.get (i := 1) rfl
  obtain ⟨tc1, tc2⟩ := zbq8 (hT.keep0 s2.keeps) q2 q3
  (try simp (maxSteps := 1000000) (disch := first | omega | (simp only [Z3]; omega) | (simp; done) | assumption | decide | (apply not_not_intro; assumption)) only [ZB, gX, tc1, tc2])
  refine (zfk (cs := zbo [Wd.n pa, Wd.s (levW le)]) (by decide) (by rfl)).mpr ?_
  (try simp (maxSteps := 1000000) (disch := first | omega | (simp only [Z3]; omega) | (simp; done) | assumption | decide | (apply not_not_intro; assumption)) only [ZB])
  refine zly [.n pa, .s (levW le)] hP s2 (by decide) (fun d hd => by
    simp only [List.mem_cons, List.not_mem_nil, or_false] at hd
    rcases hd with rfl | rfl
    · exact q1
    · exact zbq7 q2 q3) (by simp) rfl (by simp only [List.length_append]; omega) _ fun bf' H' s3 => ?_
  (try simp (maxSteps := 1000000) (disch := first | omega | (simp only [Z3]; omega) | (simp; done) | assumption | decide | (apply not_not_intro; assumption)) only [ZB, z54])
  exact ⟨hlt, bf', rfl, by
    have s4 := zrh s3
    rw [List.append_assoc] at s4
    exact s4⟩
theorem zbi2 {u : PUs} (h : UsOk u) (hn : u.rs.length ≤ 1048576) : (zqq u).length ≤ 63000000000 := by
  have a1 := zdf (f := z1a) (m := 60000) fun p hp => zbcr (h.rs p hp)
  have a2 : (zer zbcb [.s u.name, .s (z79 u.key)]).length ≤ 60000 := zdo (by decide) (fun d hd => by
    simp only [List.mem_cons, List.not_mem_nil, or_false] at hd
    rcases hd with rfl | rfl
    · exact ⟨h.name.1, by have := h.name.2; omega⟩
    · exact zbgj h.key) (by simp)
  simp only [zqq, List.length_append]
  omega
theorem zbra {G1 : List V → M V} {b : Nat} {bf : Option Nat} {l : List UInt8} {v : V} {ul : List Us} (hP : zl7 H0) (hT : Tabs H0) (hv : Users H0 v ul) (ok : ∀ u ∈ ul, UsOk u.p) (hn : ul.length ≤ 8) (hl : l.length ≤ 1000000000) (h : Hp H0 H (wrt b bf l :: L)) (Q : Out → Heap → Prop)
    (hQ : ∀ bf' H', Hp H0 H' (wrt b bf' (l ++ (ul.map Us.p).flatMap zqq) :: L) → Q (.brk 0 [ptr b 0]) H') :
    wp (zbj zb8 (zsk G1 zjj zf6 zjk zy7 zy8) [ptr b 0, v, i64 ul.length, i64 0]) Q H := by
  refine zck ul.length (by omega) (fun j vs H' => ∃ bf', vs = [ptr b 0, v, i64 ul.length, i64 j] ∧ Hp H0 H' (wrt b bf' (l ++ ((ul.take j).map Us.p).flatMap zqq) :: L)) ⟨bf, rfl, by simpa using h⟩ ?_
  rintro j vs H1 hj ⟨bf1, rfl, s1⟩
  by_cases hlt : j < ul.length
  case neg =>
    have : j = ul.length := by omega
    subst this
    rw [List.take_length] at s1
    (try simp (maxSteps := 1000000) (disch := first | omega | (simp only [Z3]; omega) | (simp; done) | assumption | decide | (apply not_not_intro; assumption)) only [ZB, zsk])
    exact hQ bf1 H1 s1
  have hp := s1.ro hv.out
  have b1 := hp.addr' (n := 3) rfl (k := .i64) (i := j) (by omega) (by omega)
  rw [Int.toNat_natCast] at b1
  have d1 := fun Q => hp.ldn' (Q := Q) (n := 3) rfl hlt default
  have hok := ok _ (zby (d := default) hlt)
  have hacc : (((ul.take j).map Us.p).flatMap zqq).length ≤ 63000000000 * ((ul.take j).map Us.p).length := zdf fun p hp => by
    obtain ⟨u, hu, rfl⟩ := List.mem_map.1 hp
    have hm := List.mem_of_mem_take hu
    exact zbi2 (ok u hm) (hv.inn u hm).2
  have htl : ((ul.take j).map Us.p).length = j := by rw [List.length_map, List.length_take]; omega
  rw [htl] at hacc
  have hat := hv.at hlt
  rw [zhb (d := default) hlt]
  simp only [List.map_append, List.map_cons, List.map_nil, List.flatMap_append, List.flatMap_cons, List.flatMap_nil, List.append_nil]
  generalize ul.getD j default = u at *
  obtain ⟨k1, k2, k3⟩ := hok
  have hone := z4i u
  have k1' : u.name.size ≠ 0 ∧ u.name.size ≤ 24 := k1
  have k2' : 16 ≤ u.key.size ∧ u.key.size ≤ 64 := k2
  (try simp (maxSteps := 1000000) (disch := first | omega | (simp only [Z3]; omega) | (simp; done) | assumption | decide | (apply not_not_intro; assumption)) only [ZA, zp, zo, zm, zl, zj, zi, zg, zf, zsk, z57, b1, d1, z0z])
  have s2 : Hp H0 (H1.push (some (.cells true [.string u.name, .string u.key, u.rs.v]))) (wrt b bf1 (l ++ ((ul.take j).map Us.p).flatMap zqq) :: cel H1.next [.string u.name, .string u.key, u.rs.v] :: L) := zso (s1.newc _)
  generalize hH2 : H1.push (some (.cells true [.string u.name, .string u.key, u.rs.v])) = H2 at *
  generalize H1.next = X at *
  have gX := s2.get (i := 1) rfl
  (try simp (maxSteps := 1000000) (disch := first | omega | (simp only [Z3]; omega) | (simp; done) | assumption | decide | (apply not_not_intro; assumption)) only [ZB, gX])
  refine zbk3 H2 u.key (by omega) _ fun H3 k23 => ?_
  have s3 := s2.keep0 k23
  have gX3 := s3.get (i := 1) rfl
  (try simp (maxSteps := 1000000) (disch := first | omega | (simp only [Z3]; omega) | (simp; done) | assumption | decide | (apply not_not_intro; assumption)) only [ZB])
  refine (zfk (cs := zbo [Wd.s u.name, Wd.s (z79 u.key)]) (by decide) (by rfl)).mpr ?_
  (try simp (maxSteps := 1000000) (disch := first | omega | (simp only [Z3]; omega) | (simp; done) | assumption | decide | (apply not_not_intro; assumption)) only [ZB])
  have lu : (zer zbcb [.s u.name, .s (z79 u.key)]).length ≤ 60000 := zdo (by decide) (fun d hd => by
    simp only [List.mem_cons, List.not_mem_nil, or_false] at hd
    rcases hd with rfl | rfl
    · exact ⟨k1'.1, by omega⟩
    · exact zbgj k2) (by simp)
  refine zly [.s u.name, .s (z79 u.key)] hP s3 (by decide) (fun d hd => by
    simp only [List.mem_cons, List.not_mem_nil, or_false] at hd
    rcases hd with rfl | rfl
    · exact ⟨k1'.1, by omega⟩
    · exact zbgj k2) (by simp) rfl (by simp only [List.length_append]; omega) _ fun bf' H4 s4 => ?_
  have gX4 := s4.get (i := 1) rfl
  have lr := hat.1.len
  (try simp (maxSteps := 1000000) (disch := first | omega | (simp only [Z3]; omega) | (simp; done) | assumption | decide | (apply not_not_intro; assumption)) only [ZB, gX3, gX4, lr])
  refine zbq9 (G4 := G1) hP hT hat.1 k3 hat.2 (by simp only [List.length_append]; have : (zer ⟨#[117, 115, 101, 114]⟩ [.s u.name, .s (z79 u.key)]).length ≤ 60000 := lu; omega) s4 _ fun bf5 H5 s5 => ?_
  (try simp (maxSteps := 1000000) (disch := first | omega | (simp only [Z3]; omega) | (simp; done) | assumption | decide | (apply not_not_intro; assumption)) only [ZB, z56])
  exact ⟨hlt, bf5, rfl, by
    have s6 := zrh s5
    simp only [List.append_assoc] at s6
    simp only [zqq, List.append_assoc]
    exact s6⟩
theorem zbv4 {i b : Nat} {bf : Option Nat} {l : List UInt8} {Q : V → Heap → Prop} (h : Hp H0 H L) (hi : L[i]? = some (wrt b bf l)) (hl : l ≠ []) (hQ : Q (i64 l.length) H) : wp (zy7 [ptr b 0]) Q H := by
  obtain ⟨⟨u, hu⟩, q⟩ := h.at hi
  cases bf with
  | none => exact absurd q hl
  | some g =>
    obtain ⟨q1, q2⟩ : H.get g = some (.buf 5 l) ∧ l ≠ [] := q
    refine ⟨_, _, ?_, hQ⟩
    show zy7 [.pointer (some ⟨b, 0, none⟩)] H = _
    unfold zy7
    simp only [hu, q1]
    rfl
theorem zbv5 {i b : Nat} {bf : Option Nat} {l : List UInt8} {Q : V → Heap → Prop} (h : Hp H0 H L) (hi : L[i]? = some (wrt b bf l)) (hl : l ≠ []) (hb : l.length ≤ 10000000000000) (hQ : ∀ H', Keeps [] H0 H' → Q (.string ⟨l.toArray⟩) H') : wp (zy8 [ptr b 0]) Q H := by
  obtain ⟨⟨u, hu⟩, q⟩ := h.at hi
  have hnew := h.newAt hi
  cases bf with
  | none => exact absurd q hl
  | some g =>
    obtain ⟨q1, q2⟩ : H.get g = some (.buf 5 l) ∧ l ≠ [] := q
    have hg := hnew g (by simp [wrt])
    refine ⟨_, H.set g none, ?_, hQ _ (h.keeps.trans (Keeps.set (S := [g]) (by simp)) (fun c hc hm => by simp at hm; omega))⟩
    show zy8 [.pointer (some ⟨b, 0, none⟩)] H = _
    unfold zy8
    simp only [hu, q1]
    exact if_pos ⟨trivial, trivial, trivial, q2, hb⟩
structure SeOk (s : Se3) : Prop where
  sy : ShOk s.sy
  us : ∀ u ∈ s.us, UsOk u
  un : s.us.length ≤ 8
  millis : zej s.sy.millis
  frame : zej s.sy.frame
  idle : zej s.idle
theorem zbcs {k : ByteArray} {n : Int} (hk : k.size ≤ 10000) (h : zej n) : (zer k [.n n]).length ≤ 60000 := zdo hk (fun d hd => by
  simp only [List.mem_cons, List.not_mem_nil, or_false] at hd
  subst hd
  exact h) (by simp)
theorem zbtp {G : List V → M V} {x : SyV} {v : V} {l : List Us} {s : Se3} (hP : zl7 H) (hT : Tabs H) (hs : SysAt H x s.sy) (hu : Users H v l) (hp : l.map Us.p = s.us) (ok : zv4 s.sy s.us s.idle = 0 → SeOk s) (Q : V → Heap → Prop)
    (hQ : ∀ H', Keeps [] H H' → Q (.tuple #[.string (z1b s).1, i64 (z1b s).2]) H') : wp (zq4 G zjj zf6 zjk zy7 zy8 [.agg (x.cs s.sy ++ [v, i64 s.idle]).toArray]) Q H := by
  show wp (z0x G zjj zf6 zjk zy7 zy8 (.agg (x.cs s.sy ++ [v, i64 s.idle]).toArray)) Q H
  have ho : (x.cs s.sy ++ [v, i64 s.idle]).all Value.isOne = true := by rw [List.all_append, hs.one]; simp [hu.out.isOne]
  have s1 : Hp H (H.push (some (.cells true (x.cs s.sy ++ [v, i64 s.idle])))) [cel H.next (x.cs s.sy ++ [v, i64 s.idle])] := (Hp.start H).newc _
  unfold z0x
  rw [z8, z8]
  refine (zc5 ho).mpr ?_
  have c3 : (x.cs s.sy ++ [v, i64 s.idle])[3]? = some (i64 s.sy.frame) := rfl
  have c6 : (x.cs s.sy ++ [v, i64 s.idle])[6]? = some (i64 s.sy.millis) := rfl
  have c7 : (x.cs s.sy ++ [v, i64 s.idle])[7]? = some v := rfl
  have c8 : (x.cs s.sy ++ [v, i64 s.idle])[8]? = some (i64 s.idle) := rfl
  have d7 : ∀ {K : Heap} (P : Nat), K.get P = some (.cells true (x.cs s.sy ++ [v, i64 s.idle])) → ∀ Q, wp (ldn 7 (ptr P 0)) Q K ↔ Q (.agg (x.cs s.sy).toArray) K := fun P hg Q => by
    rw [zca, hg, zxh (by show 0 + 7 ≤ 9; omega)]
    rfl
  generalize x.cs s.sy ++ [v, i64 s.idle] = cs at *
  generalize H.push (some (.cells true cs)) = H1 at *
  generalize H.next = P at *
  have g1 := s1.get (i := 0) rfl
  have e1 := d7 P g1
  (try simp (maxSteps := 1000000) (disch := first | omega | (simp only [Z3]; omega) | (simp; done) | assumption | decide | (apply not_not_intro; assumption)) only [ZA, zp, zo, zm, zl, zj, zi, zg, zf, e1, g1, c7, c8])
  refine zbb9 (hs.keep0 s1.keeps) (hu.keep0 s1.keeps) hp s.idle _ fun a H2 k2 => ?_
  have s2 := s1.keep0 k2
  unfold z1b at hQ
  by_cases hn : zv4 s.sy s.us s.idle = 0
  case neg =>
    rw [if_pos hn] at hQ
    have e2 : decide (zv4 s.sy s.us s.idle ≠ 0) = true := decide_eq_true hn
    (try simp (maxSteps := 1000000) (disch := first | omega | (simp only [Z3]; omega) | (simp; done) | assumption | decide | (apply not_not_intro; assumption)) only [ZB, e2])
    exact hQ _ s2.keeps
  rw [if_neg (fun q => q hn)] at hQ
  obtain ⟨oks, oku, okn, okm, okf, oki⟩ := ok hn
  have e2 : decide (zv4 s.sy s.us s.idle ≠ 0) = false := decide_eq_false (fun q => q hn)
  have eb : build [(Value.pointer none : V), Value.slice none 0 0] [] = some (.agg [.pointer none, .slice none 0 0].toArray) := rfl
  have wB : ∀ Q, wp (bldM zyv (.agg [.pointer none, .slice none 0 0].toArray)) Q H2 ↔ Q (ptr H2.next 0) (H2.push (some (.bld 74 false none 0))) := fun Q => zbtj _
  have s3 := zbtk s2
  have g3 := s3.get (i := 1) rfl
  have n1 := zbcs (k := zh8) (by decide) okm
  have n2 := zbcs (k := zlc) (by decide) okf
  have n3 := zbcs (k := zrz) (by decide) oki
  (try simp (maxSteps := 1000000) (disch := first | omega | (simp only [Z3]; omega) | (simp; done) | assumption | decide | (apply not_not_intro; assumption)) only [ZA, zp, zo, zl, zj, zi, zg, zf, e2, z6a, eb, wB])
  generalize H2.push (some (.bld 74 false none 0)) = H3 at *
  generalize H2.next = b at *
  (try simp (maxSteps := 1000000) (disch := first | omega | (simp only [Z3]; omega) | (simp; done) | assumption | decide | (apply not_not_intro; assumption)) only [ZA, zp, zo, zm, zl, zj, zi, zg, zf, g3, c6])
  refine (zfk (cs := zbo [Wd.n s.sy.millis]) (by decide) (by rfl)).mpr ?_
  (try simp (maxSteps := 1000000) (disch := first | omega | (simp only [Z3]; omega) | (simp; done) | assumption | decide | (apply not_not_intro; assumption)) only [ZA, zp, zo, zm, zl, zj, zi, zg, zf])
  refine zly [.n s.sy.millis] hP s3 (by decide) (fun d hd => by
    simp only [List.mem_cons, List.not_mem_nil, or_false] at hd
    subst hd
    exact okm) (by simp) rfl (by simp) _ fun bf4 H4 s4 => ?_
  have g4 := s4.get (i := 1) rfl
  (try simp (maxSteps := 1000000) (disch := first | omega | (simp only [Z3]; omega) | (simp; done) | assumption | decide | (apply not_not_intro; assumption)) only [ZA, zp, zo, zm, zl, zj, zi, zg, zf, g4, c3])
  refine (zfk (cs := zbo [Wd.n s.sy.frame]) (by decide) (by rfl)).mpr ?_
  (try simp (maxSteps := 1000000) (disch := first | omega | (simp only [Z3]; omega) | (simp; done) | assumption | decide | (apply not_not_intro; assumption)) only [ZA, zp, zo, zm, zl, zj, zi, zg, zf])
  refine zly [.n s.sy.frame] hP s4 (by decide) (fun d hd => by
    simp only [List.mem_cons, List.not_mem_nil, or_false] at hd
    subst hd
    exact okf) (by simp) rfl (by
      have : (zer ⟨#[109, 105, 108, 108, 105, 115]⟩ [.n s.sy.millis]).length ≤ 60000 := n1
      simp only [List.length_append, List.length_nil]; omega) _ fun bf5 H5 s5 => ?_
  have g5 := s5.get (i := 1) rfl
  (try simp (maxSteps := 1000000) (disch := first | omega | (simp only [Z3]; omega) | (simp; done) | assumption | decide | (apply not_not_intro; assumption)) only [ZA, zp, zo, zm, zl, zj, zi, zg, zf, g5, c8])
  refine (zfk (cs := zbo [Wd.n s.idle]) (by decide) (by rfl)).mpr ?_
  (try simp (maxSteps := 1000000) (disch := first | omega | (simp only [Z3]; omega) | (simp; done) | assumption | decide | (apply not_not_intro; assumption)) only [ZA, zp, zo, zm, zl, zj, zi, zg, zf])
  refine zly [.n s.idle] hP s5 (by decide) (fun d hd => by
    simp only [List.mem_cons, List.not_mem_nil, or_false] at hd
    subst hd
    exact oki) (by simp) rfl (by
      have : (zer ⟨#[109, 105, 108, 108, 105, 115]⟩ [.n s.sy.millis]).length ≤ 60000 := n1
      have : (zer ⟨#[102, 114, 97, 109, 101]⟩ [.n s.sy.frame]).length ≤ 60000 := n2
      simp only [List.length_append, List.length_nil]; omega) _ fun bf6 H6 s6 => ?_
  have s6' : Hp H H6 (wrt b bf6 (z6u s) :: [cel P cs]) := s6
  clear s6
  have hhl : (z6u s).length ≤ 180000 := by simp only [z6u, List.length_append]; omega
  have hhn : z6u s ≠ [] := by simp [z6u, zer]
  have g6 := s6'.get (i := 1) rfl
  have e6 := d7 P g6
  (try simp (maxSteps := 1000000) (disch := first | omega | (simp only [Z3]; omega) | (simp; done) | assumption | decide | (apply not_not_intro; assumption)) only [ZA, zp, zo, zm, zl, zj, zi, zg, zf, e6])
  refine zboa hP hT hs oks (by omega) s6' _ fun bf7 H7 s7 => ?_
  have g7 := s7.get (i := 1) rfl
  have hvl := hu.out.len
  have hsl := zbgi oks
  (try simp (maxSteps := 1000000) (disch := first | omega | (simp only [Z3]; omega) | (simp; done) | assumption | decide | (apply not_not_intro; assumption)) only [ZB, g7, c7, hvl])
  refine zbra hP hT hu (fun u hm => oku _ (by rw [← hp]; exact List.mem_map_of_mem hm)) (by rw [← hp, List.length_map] at okn; exact okn) (by simp only [List.length_append]; omega) s7 _ fun bf8 H8 s8 => ?_
  rw [hp] at s8
  have s8' : Hp H H8 (wrt b bf8 (zl8 s) :: [cel P cs]) := s8
  clear s8
  have hne : zl8 s ≠ [] := by simp only [zl8, ne_eq, List.append_eq_nil_iff, not_and]; intro q; exact absurd q.1 hhn
  (try simp (maxSteps := 1000000) (disch := first | omega | (simp only [Z3]; omega) | (simp; done) | assumption | decide | (apply not_not_intro; assumption)) only [ZB, z59])
  refine zbv4 s8' (i := 0) rfl hne ?_
  by_cases hlen : (zl8 s).length > 65536
  · rw [if_pos hlen] at hQ
    have e8 : decide (((zl8 s).length : Int) > 65536) = true := decide_eq_true (by omega)
    (try simp (maxSteps := 1000000) (disch := first | omega | (simp only [Z3]; omega) | (simp; done) | assumption | decide | (apply not_not_intro; assumption)) only [ZB, e8])
    exact hQ _ s8'.keeps
  rw [if_neg hlen] at hQ
  have e8 : decide (((zl8 s).length : Int) > 65536) = false := decide_eq_false (by omega)
  (try simp (maxSteps := 1000000) (disch := first | omega | (simp only [Z3]; omega) | (simp; done) | assumption | decide | (apply not_not_intro; assumption)) only [ZB, e8, z58])
  refine zbv5 s8' (i := 0) rfl hne (by omega) fun H9 k9 => ?_
  (try simp (maxSteps := 1000000) (disch := first | omega | (simp only [Z3]; omega) | (simp; done) | assumption | decide | (apply not_not_intro; assumption)) only [ZB])
  exact hQ _ k9
end Go.AM.Cap
