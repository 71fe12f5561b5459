import Derived.Test.YtjchglndancedaaGreatDoorCfBs
set_option linter.all false
/- conf: plain: what is so of a setup that may be; how many lines are shown -/
set_option maxHeartbeats 4000000
namespace Go.AM.Cap
open Go.AM Go.Proofs
theorem zbma : ∀ {ws : List Win} {frame n e : Int}, zqp frame n e ws = false → 0 ≤ e → ∀ w ∈ ws, -1 ≤ w.part ∧ w.part < n ∧ 1 ≤ w.len ∧ 0 ≤ w.start ∧ w.start ≤ frame ∧ w.len ≤ frame - w.start
  | [], _, _, _, _, _, w, hw => by cases hw
  | x :: ws, frame, n, e, h, he, w, hw => by
    rw [zqp] at h
    by_cases hb : z01 frame n e x
    · rw [if_pos hb] at h; cases h
    rw [if_neg hb] at h
    have hb' := hb
    unfold z01 at hb'
    rcases List.mem_cons.1 hw with rfl | hw
    · omega
    · exact zbma h (by omega) w hw
theorem zbmb {frame n : Int} {ws : List Win} (h : zy5 frame ws n = 0) : 1 ≤ n ∧ n ≤ 8 ∧ 1 ≤ frame ∧ frame ≤ 65536 ∧ ws.length ≤ 32 ∧ ∀ w ∈ ws, -1 ≤ w.part ∧ w.part < n ∧ 1 ≤ w.len ∧ 0 ≤ w.start ∧ w.start ≤ frame ∧ w.len ≤ frame - w.start := by
  unfold zy5 at h
  by_cases c1 : n < 1 ∨ n > 8
  · rw [if_pos c1] at h; cases h
  rw [if_neg c1] at h
  by_cases c2 : frame < 1 ∨ frame > 65536 ∨ ws.length < 1 ∨ ws.length > 32
  · rw [if_pos c2] at h; cases h
  rw [if_neg c2] at h
  by_cases c3 : zqp frame n 0 ws = true
  · rw [if_pos c3] at h; cases h
  exact ⟨by omega, by omega, by omega, by omega, by omega, zbma (by simpa using c3) (by omega)⟩
theorem zbwb {q : Port} (h : zt5 q = 0) : (q.kind = 1 ∨ q.kind = 2) ∧ (0 ≤ q.src ∧ q.src < 8) ∧ (0 ≤ q.dst ∧ q.dst < 8) ∧ (1 ≤ q.typ ∧ q.typ ≤ 3) ∧ (q.kind = 1 → q.cap = 0) ∧ 0 ≤ q.cap ∧ q.cap ≤ 16 := by
  unfold zt5 at h
  by_cases c1 : q.kind ≠ 1 ∧ q.kind ≠ 2
  · rw [if_pos c1] at h; omega
  rw [if_neg c1] at h
  by_cases c2 : ¬ (0 ≤ q.src ∧ q.src < 8) ∨ ¬ (0 ≤ q.dst ∧ q.dst < 8)
  · rw [if_pos c2] at h; omega
  rw [if_neg c2] at h
  by_cases c3 : q.src = q.dst
  · rw [if_pos c3] at h; omega
  rw [if_neg c3] at h
  by_cases c4 : q.typ < 1 ∨ q.typ > 3
  · rw [if_pos c4] at h; omega
  rw [if_neg c4] at h
  by_cases c5 : q.kind = 1 ∧ q.cap ≠ 0 ∨ q.kind = 2 ∧ (q.cap < 1 ∨ q.cap > 16)
  · rw [if_pos c5] at h; omega
  omega
theorem zbi3 : ∀ {l ah : List Us} {parts : Int}, (zhg parts ah l).2 = 0 → ∀ u ∈ l, zf0 u = true ∧ zt6 u.rs.xs parts = 0
  | [], _, _, _, u, hu => by cases hu
  | x :: l, ah, parts, h, u, hu => by
    rw [zhg] at h
    by_cases c1 : zf0 x = true
    case neg => rw [if_neg c1] at h; cases h
    rw [if_pos c1] at h
    by_cases c2 : (z8z ah x.name).isSome = true
    · rw [if_pos c2] at h; cases h
    rw [if_neg c2] at h
    by_cases c3 : zt6 x.rs.xs parts = 0
    case neg => rw [if_neg c3] at h; exact absurd h c3
    rw [if_pos c3] at h
    rcases List.mem_cons.1 hu with rfl | hu
    · exact ⟨c1, c3⟩
    · exact zbi3 h u hu
theorem zbrd {us : List PUs} {parts : Int} (h : (z82 us parts).2 = 0) : us.length ≤ 8 ∧ ∀ u ∈ us, zrf u.name = true ∧ UsOk u ∧ ∀ r ∈ u.rs, 0 ≤ r.part ∧ r.part < parts := by
  unfold z82 zm0 at h
  by_cases c1 : parts < 1 ∨ parts > 8
  · rw [if_pos c1] at h; cases h
  rw [if_neg c1, List.length_map] at h
  by_cases c2 : us.length > 8
  · rw [if_pos c2] at h; cases h
  rw [if_neg c2] at h
  refine ⟨by omega, fun u hu => ?_⟩
  obtain ⟨q1, q2⟩ := zbi3 h u.u (List.mem_map_of_mem hu)
  have q2' : zt6 u.rs parts = 0 := q2
  unfold zt6 at q2'
  by_cases c3 : u.rs.any (badR parts) = true
  · rw [if_pos c3] at q2'; cases q2'
  have hr : ∀ r ∈ u.rs, ¬ (r.part < 0 ∨ r.part ≥ parts ∨ r.level < 1 ∨ r.level > 4) := fun r hr hb => c3 (List.any_eq_true.2 ⟨r, hr, decide_eq_true hb⟩)
  unfold zf0 at q1
  simp only [Bool.and_eq_true, decide_eq_true_eq] at q1
  obtain ⟨q3, q4⟩ := q1
  have q3' : zrf u.name = true := q3
  have q3'' := q3'
  unfold zrf at q3''
  simp only [Bool.and_eq_true, decide_eq_true_eq] at q3''
  refine ⟨q3', ⟨⟨fun e => q3''.1.1 ?_, q3''.1.2⟩, q4, fun r hm => ?_⟩, fun r hm => ?_⟩
  · have hz : u.name.data.toList.length = 0 := by rw [z6t]; exact e
    have : u.name.data = #[] := by
      have := List.eq_nil_of_length_eq_zero hz
      simpa using this
    cases hu' : u.name with | mk d => rw [hu'] at this; simp only at this; rw [this]
  · have := hr r hm
    exact ⟨⟨by omega, by omega⟩, by omega, by omega⟩
  · have := hr r hm
    omega
theorem zbmc {s : Sy} {us : List PUs} {idle : Int} (h : zv4 s us idle = 0) : SyOk s ∧ (z82 us s.uns.length).2 = 0 ∧ 1 ≤ idle ∧ idle ≤ 100000 := by
  unfold zv4 at h
  by_cases c1 : exE s ≠ 0
  · rw [if_pos c1] at h; exact absurd h c1
  rw [if_neg c1] at h
  by_cases c2 : (z82 us s.uns.length).2 ≠ 0
  · rw [if_pos c2] at h; exact absurd h c2
  rw [if_neg c2] at h
  by_cases c3 : idle < 1 ∨ idle > 100000
  · rw [if_pos c3] at h; cases h
  exact ⟨zbkv (Decidable.not_not.1 c1), Decidable.not_not.1 c2, by omega, by omega⟩
theorem zbxi {s : Sy} (h : SyOk s) : ∀ u ∈ s.uns, UnOk u ∧ (∀ b ∈ u.ins, inB s b) ∧ ∀ b ∈ u.outs, inB s b := fun u hu => by
  obtain ⟨i, hi, he⟩ := List.mem_iff_getElem.1 hu
  have hb := h.units i hi
  rw [List.getD_eq_getElem?_getD, List.getElem?_eq_getElem hi] at hb
  simp only [Option.getD_some, he] at hb
  obtain ⟨l1, m1⟩ := zx6 hb.1
  obtain ⟨l2, m2⟩ := zx6 hb.2
  have i1 : ∀ b ∈ u.ins, inB s b := fun b hb => z6i h.grs (m1 b hb)
  have i2 : ∀ b ∈ u.outs, inB s b := fun b hb => z6i h.grs (m2 b hb)
  have hp := (zw1 h.chkB).1
  have hq := (z1t h.chkP).1
  have key : ∀ b, inB s b → zej b.n := fun b hb => by
    rcases hb with ⟨_, q2, q3⟩ | ⟨_, q2, q3⟩ <;> exact ⟨by omega, by omega⟩
  exact ⟨⟨l1, l2, fun b hb => key b (i1 b hb), fun b hb => key b (i2 b hb)⟩, i1, i2⟩
theorem zbtr {s : Sy} (h : SyOk s) (hg : s.grs.length ≤ 1000) : ShOk s := by
  obtain ⟨p1, p2, p3, p4, p5, p6⟩ := zbmb h.plan
  obtain ⟨b1, b2, b3⟩ := zw1 h.chkB
  obtain ⟨q1, q2⟩ := z1t h.chkP
  refine ⟨b1, fun p hp => ?_, hg, fun g hg => ?_, by omega, fun q hq => ?_, by omega, fun w hw => ?_, by omega, fun u hu => (zbxi h u hu).1⟩
  · have := b2 p hp
    unfold z6c at this
    omega
  · have := b3 g hg
    exact ⟨⟨by omega, by omega⟩, ⟨by omega, by omega⟩⟩
  · have := zbwb (q2 q hq)
    exact ⟨⟨by omega, by omega⟩, ⟨by omega, by omega⟩, ⟨by omega, by omega⟩, by omega, by omega⟩
  · have := p6 w hw
    exact ⟨⟨by omega, by omega⟩, ⟨by omega, by omega⟩, ⟨by omega, by omega⟩⟩
theorem zbmd {s : Se3} (h : zv4 s.sy s.us s.idle = 0) (hg : s.sy.grs.length ≤ 1000) : SeOk s := by
  obtain ⟨h1, h2, h3, h4⟩ := zbmc h
  obtain ⟨u1, u2⟩ := zbrd h2
  obtain ⟨p1, p2, p3, p4, _⟩ := zbmb h1.plan
  have := h1.millis
  exact ⟨zbtr h1 hg, fun u hu => (u2 u hu).2.1, u1, ⟨by omega, by omega⟩, ⟨by omega, by omega⟩, ⟨by omega, by omega⟩⟩
def zeb (l : List UInt8) : Prop := ∀ c ∈ l, c ≠ 10
theorem zbes : ∀ (u : Nat), ∀ c ∈ Lib.decDigits u, 48 ≤ c.toNat ∧ c.toNat ≤ 57 := by
  intro u
  induction u using Nat.strongRecOn with
  | ind u ih =>
    intro c hc
    rw [Lib.decDigits] at hc
    by_cases h : u < 10
    · rw [dif_pos h] at hc
      simp only [List.mem_cons, List.not_mem_nil, or_false] at hc
      subst hc
      show 48 ≤ (48 + u) % 256 ∧ (48 + u) % 256 ≤ 57
      omega
    · rw [dif_neg h] at hc
      rcases List.mem_append.1 hc with hc | hc
      · exact ih (u / 10) (by omega) c hc
      · simp only [List.mem_cons, List.not_mem_nil, or_false] at hc
        subst hc
        show 48 ≤ (48 + u % 10) % 256 ∧ (48 + u % 10) % 256 ≤ 57
        omega
theorem zbre (n : Int) : zeb (Lib.itoa n) := fun c hc => by
  unfold Lib.itoa at hc
  split at hc
  · rcases List.mem_cons.1 hc with rfl | hc
    · decide
    · have := zbes _ c hc
      intro e; subst e; revert this; decide
  · have := zbes _ c hc
    intro e; subst e; revert this; decide
def Wd.NoTen : Wd → Prop
  | .n _ => True
  | .s x => zeb x.data.toList
theorem zboc {d : Wd} (h : d.NoTen) : zeb (zbcl d) := by
  cases d with
  | n i => exact zbre i
  | s x => exact h
theorem z9a {l : List UInt8} (h : zeb l) : l.count 10 = 0 := List.count_eq_zero.2 fun hc => h 10 hc rfl
theorem zfw {w : ByteArray} {ws : List Wd} (hw : zeb w.data.toList) (hws : ∀ d ∈ ws, d.NoTen) : (zer w ws).count 10 = 1 := by
  have h1 := z9a hw
  have h2 : (zt9 ws).count 10 = 0 := z9a fun c hc => by
    unfold zt9 at hc
    obtain ⟨d, hd, hc⟩ := List.mem_flatMap.1 hc
    rcases List.mem_cons.1 hc with rfl | hc
    · decide
    · exact zboc (hws d hd) c hc
  rw [zer, List.count_append, List.count_append, h1, h2]
  rfl
theorem zyh {α : Type} {f : α → List UInt8} {g : α → Nat} : ∀ {l : List α}, (∀ x ∈ l, (f x).count 10 = g x) → (l.flatMap f).count 10 = (l.map g).sum
  | [], _ => by simp
  | x :: l, h => by
    rw [List.flatMap_cons, List.count_append, h x (by simp), zyh (l := l) (fun y hy => h y (by simp [hy])), List.map_cons, List.sum_cons]
theorem zbi4 {α : Type} : ∀ l : List α, (l.map fun _ => 1).sum = l.length
  | [] => rfl
  | _ :: l => by rw [List.map_cons, List.sum_cons, zbi4 l, List.length_cons]; omega
theorem zns {α : Type} {f : α → List UInt8} {l : List α} (h : ∀ x ∈ l, (f x).count 10 = 1) : (l.flatMap f).count 10 = l.length := by rw [zyh (g := fun _ => 1) h, zbi4]
theorem zbcu (t : Int) : zeb (zw4 t).data.toList := by
  unfold zw4
  have : ∀ k : Nat, zeb ([zji, z83, kInt, z84].getD k zji).data.toList := fun k => by
    match k with
    | 0 => exact by unfold zeb; decide
    | 1 => exact by unfold zeb; decide
    | 2 => exact by unfold zeb; decide
    | 3 => exact by unfold zeb; decide
    | k + 4 => exact by unfold zeb; intro c hc; cases hc
  exact this _
theorem zbts (t : Int) : zeb (levW t).data.toList := by
  unfold levW
  have : ∀ k : Nat, zeb ([zji, z86, kRun, z04, z05].getD k zji).data.toList := fun k => by
    match k with
    | 0 => exact by unfold zeb; decide
    | 1 => exact by unfold zeb; decide
    | 2 => exact by unfold zeb; decide
    | 3 => exact by unfold zeb; decide
    | 4 => exact by unfold zeb; decide
    | k + 5 => exact by unfold zeb; intro c hc; cases hc
  exact this _
theorem zbi5 : ∀ n : Nat, n < 16 → hexd n ≠ 10#8 := by decide
theorem zbtt (k : ByteArray) : zeb (z79 k).data.toList := fun c hc e => by
  subst e
  have : (10#8) ∈ bv (z79 k) := List.mem_map.2 ⟨10, hc, rfl⟩
  rw [z79, zym] at this
  unfold hexl at this
  obtain ⟨b, _, hb⟩ := List.mem_flatMap.1 this
  have := b_lt b
  simp only [List.mem_cons, List.not_mem_nil, or_false] at hb
  rcases hb with hb | hb
  · exact zbi5 _ (by omega) hb.symm
  · exact zbi5 _ (by omega) hb.symm
theorem zbi6 : ∀ b : BitVec 8, inS (bv letters) b = true → b ≠ 10#8 := by decide +kernel
theorem zbrf {n : ByteArray} (h : zrf n = true) : zeb n.data.toList := fun c hc e => by
  subst e
  unfold zrf at h
  simp only [Bool.and_eq_true] at h
  have := List.all_eq_true.1 h.2 (10#8) (List.mem_map.2 ⟨10, hc, rfl⟩)
  exact zbi6 _ this rfl
theorem zbcv {k : ByteArray} (hk : zeb k.data.toList) (b : Bd) : (zlf k b).count 10 = 1 := zfw hk fun d hd => by
  simp only [List.mem_cons, List.not_mem_nil, or_false] at hd
  rcases hd with rfl | rfl
  · by_cases c : b.kind = 1
    · rw [if_pos c]; unfold Wd.NoTen zeb; decide
    · rw [if_neg c]; unfold Wd.NoTen zeb; decide
  · trivial
def zbcw (s : Se3) : Nat := 3 + s.sy.pts.length + s.sy.grs.length + s.sy.prs.length + s.sy.wins.length + (s.sy.uns.map fun u => 1 + u.ins.length + u.outs.length).sum + (s.us.map fun u => 1 + u.rs.length).sum
theorem zbk6 {s : Se3} (hn : ∀ u ∈ s.us, zrf u.name = true) : (zl8 s).count 10 = zbcw s := by
  have a1 : (s.sy.pts.flatMap zye).count 10 = s.sy.pts.length := zns fun p _ => zfw (by cases p.out <;> (unfold zeb; decide)) fun d hd => by
    simp only [List.mem_cons, List.not_mem_nil, or_false] at hd
    subst hd; exact zbcu _
  have a2 : (s.sy.grs.flatMap zyf).count 10 = s.sy.grs.length := zns fun p _ => zfw (by cases p.write <;> (unfold zeb; decide)) fun d hd => by
    simp only [List.mem_cons, List.not_mem_nil, or_false] at hd
    rcases hd with rfl | rfl <;> trivial
  have a3 : (s.sy.prs.flatMap znq).count 10 = s.sy.prs.length := zns fun p _ => by
    unfold znq
    split
    · refine zfw (by unfold zeb; decide) fun d hd => ?_
      simp only [List.mem_cons, List.not_mem_nil, or_false] at hd
      rcases hd with rfl | rfl | rfl
      · trivial
      · trivial
      · exact zbcu _
    · refine zfw (by unfold zeb; decide) fun d hd => ?_
      simp only [List.mem_cons, List.not_mem_nil, or_false] at hd
      rcases hd with rfl | rfl | rfl | rfl
      · trivial
      · trivial
      · exact zbcu _
      · trivial
  have a4 : (s.sy.wins.flatMap znr).count 10 = s.sy.wins.length := zns fun p _ => by
    unfold znr
    split
    · refine zfw (by unfold zeb; decide) fun d hd => ?_
      simp only [List.mem_cons, List.not_mem_nil, or_false] at hd
      rcases hd with rfl | rfl <;> trivial
    · refine zfw (by unfold zeb; decide) fun d hd => ?_
      simp only [List.mem_cons, List.not_mem_nil, or_false] at hd
      rcases hd with rfl | rfl | rfl <;> trivial
  have a5 : (s.sy.uns.flatMap zpk).count 10 = (s.sy.uns.map fun u => 1 + u.ins.length + u.outs.length).sum := zyh fun u _ => by
    have e1 : (u.ins.flatMap (zlf z03)).count 10 = u.ins.length := zns fun b _ => zbcv (by unfold zeb; decide) b
    have e2 : (u.outs.flatMap (zlf kPut)).count 10 = u.outs.length := zns fun b _ => zbcv (by unfold zeb; decide) b
    have e3 : (zer zbca []).count 10 = 1 := zfw (by unfold zeb; decide) (by simp)
    rw [zpk, List.count_append, List.count_append, e1, e2, e3]
  have a6 : (s.us.flatMap zqq).count 10 = (s.us.map fun u => 1 + u.rs.length).sum := zyh fun u hu => by
    have e1 : (u.rs.flatMap z1a).count 10 = u.rs.length := zns fun r _ => zfw (by unfold zeb; decide) fun d hd => by
      simp only [List.mem_cons, List.not_mem_nil, or_false] at hd
      rcases hd with rfl | rfl
      · trivial
      · exact zbts _
    have e2 : (zer zbcb [.s u.name, .s (z79 u.key)]).count 10 = 1 := zfw (by unfold zeb; decide) fun d hd => by
      simp only [List.mem_cons, List.not_mem_nil, or_false] at hd
      rcases hd with rfl | rfl
      · exact zbrf (hn u hu)
      · exact zbtt _
    rw [zqq, List.count_append, e1, e2]
  have a7 : ∀ (k : ByteArray) (n : Int), zeb k.data.toList → (zer k [.n n]).count 10 = 1 := fun k n hk => zfw hk fun d hd => by
    simp only [List.mem_cons, List.not_mem_nil, or_false] at hd
    subst hd; trivial
  have b1 := a7 zh8 s.sy.millis (by unfold zeb; decide)
  have b2 := a7 zlc s.sy.frame (by unfold zeb; decide)
  have b3 := a7 zrz s.idle (by unfold zeb; decide)
  simp only [zl8, z6u, zua, List.count_append, a1, a2, a3, a4, a5, a6, b1, b2, b3, zbcw]
  omega
def zsp (l : List UInt8) : Prop := l = [] ∨ ∃ m, l = m ++ [10]
theorem zhq (w : ByteArray) (ws : List Wd) : zsp (zer w ws) := .inr ⟨_, rfl⟩
theorem zjl {a b : List UInt8} (ha : zsp a) (hb : zsp b) : zsp (a ++ b) := by
  rcases hb with rfl | ⟨m, rfl⟩
  · simpa using ha
  · exact .inr ⟨a ++ m, by simp⟩
theorem zjo {α : Type} {f : α → List UInt8} (h : ∀ x, zsp (f x)) : ∀ l : List α, zsp (l.flatMap f)
  | [] => .inl rfl
  | x :: l => by rw [List.flatMap_cons]; exact zjl (h x) (zjo h l)
theorem zbod (s : Se3) : zsp (zl8 s) := by
  have h1 : zsp (z6u s) := zjl (zjl (zhq _ _) (zhq _ _)) (zhq _ _)
  have h2 : zsp (zua s.sy) := by
    refine zjl (zjl (zjl (zjl (zjo (fun p => zhq _ _) _) (zjo (fun g => zhq _ _) _)) (zjo (fun q => ?_) _)) (zjo (fun w => ?_) _)) (zjo (fun u => ?_) _)
    · unfold znq; split <;> exact zhq _ _
    · unfold znr; split <;> exact zhq _ _
    · exact zjl (zjl (zhq _ _) (zjo (fun b => zhq _ _) _)) (zjo (fun b => zhq _ _) _)
  exact zjl (zjl h1 h2) (zjo (fun u => zjl (zhq _ _) (zjo (fun r => zhq _ _) _)) _)
end Go.AM.Cap
