import Derived.Test.YtjchglndancedaaGreatDoorCfX
set_option linter.all false
/- conf: ConfNotes, the plain law -/
set_option maxHeartbeats 16000000
namespace Go.AM.Cap
open Go.AM Go.Proofs
def nlS : ByteArray := ⟨#[10]⟩
def z8b : ByteArray := ⟨#[10, 35, 32, 97, 32, 110, 111, 116, 101, 32, 32, 111, 102, 32, 97, 110, 121, 32, 119, 111, 114, 100, 115, 10]⟩
def zbdf : ByteArray := ⟨#[35, 32, 97, 32, 110, 111, 116, 101, 32, 32, 111, 102, 32, 97, 110, 121, 32, 119, 111, 114, 100, 115]⟩
def zxh : ByteArray → List ByteArray → ByteArray
  | t, [] => t
  | t, l :: ls => zxh (t ++ (l ++ nlS)) ls
def z0w (put : Nat) : Nat → ByteArray → List ByteArray → ByteArray
  | _, m, [] => m
  | i, m, l :: ls => z0w put (i + 1) ((if i = put then m ++ z8b else m) ++ (l ++ nlS)) ls
def zmi (ls : List ByteArray) : List (BitVec 8) := ls.flatMap fun l => bv l ++ [10]
theorem zp7 (l : ByteArray) (ls : List ByteArray) : zmi (l :: ls) = bv l ++ ([10] ++ zmi ls) := by simp [zmi]
theorem zuy (a b : List ByteArray) : zmi (a ++ b) = zmi a ++ zmi b := by simp [zmi]
theorem zbms : bv nlS = [10] := by decide
theorem zbse : bv z8b = zmi [zhl, zbdf] := by decide
theorem zbjm : ∀ (ls : List ByteArray) (t : ByteArray), bv (zxh t ls) = bv t ++ zmi ls
  | [], t => by simp [zxh, zmi]
  | l :: ls, t => by
    rw [zxh, zbjm ls, zlz, zlz, zbms, zp7]
    simp
theorem zbjn (put : Nat) : ∀ (ls : List ByteArray) (i : Nat) (m : ByteArray), bv (z0w put i m ls) = bv m ++ (if i ≤ put ∧ put < i + ls.length then zmi (ls.take (put - i) ++ [zhl, zbdf] ++ ls.drop (put - i)) else zmi ls)
  | [], i, m => by
    rw [z0w, if_neg (by simp)]
    simp [zmi]
  | l :: ls, i, m => by
    rw [z0w, zbjn put ls]
    by_cases h : i = put
    · subst h
      rw [if_pos rfl, if_neg (by omega), if_pos ⟨Nat.le_refl _, by simp⟩, Nat.sub_self, List.take_zero, List.drop_zero, List.nil_append, zuy, zlz, zlz, zlz, zbms, zbse, zp7]
      simp
      rw [zp7]; rfl
    · rw [if_neg h]
      by_cases h2 : i ≤ put ∧ put < i + (l :: ls).length
      · have h2' := h2
        simp only [List.length_cons] at h2'
        rw [if_pos h2, if_pos (by omega)]
        obtain ⟨k, hk⟩ : ∃ k, put - i = k + 1 := ⟨put - i - 1, by omega⟩
        rw [hk, List.take_succ_cons, List.drop_succ_cons, show put - (i + 1) = k by omega, List.cons_append, List.cons_append, zp7, zlz, zlz, zbms]
        simp
      · have h2' := h2
        simp only [List.length_cons] at h2'
        rw [if_neg h2, if_neg (by omega), zp7, zlz, zlz, zbms]
        simp
def noNl (l : ByteArray) : Prop := ∀ b ∈ bv l, b ≠ 10
theorem zbam {c : BitVec 8} : ∀ {l r : List (BitVec 8)}, (∀ b ∈ l, b ≠ c) → zga c (l ++ c :: r) = l :: zga c r
  | [], r, _ => by simp [zga]
  | b :: l, r, h => by
    have hb : ¬ b = c := h b (by simp)
    have ih := zbam (c := c) (l := l) (r := r) (fun x hx => h x (by simp [hx]))
    rw [List.cons_append, zga, if_neg hb, ih]
    rfl
theorem zban : ∀ {ls : List ByteArray}, (∀ l ∈ ls, noNl l) → zga 10 (zmi ls) = ls.map bv ++ [[]]
  | [], _ => rfl
  | l :: ls, h => by
    rw [zp7]
    show zga 10 (bv l ++ 10 :: zmi ls) = _
    rw [zbam (h l (by simp)), zban (fun x hx => h x (by simp [hx]))]
    rfl
theorem zbjo {t : ByteArray} {ls : List ByteArray} (h : bv t = zmi ls) (hn : ∀ l ∈ ls, noNl l) : zdx 10 t = ls ++ [zhl] := by
  rw [zdx, h, zban hn, List.map_append, List.map_map]
  have : (sv ∘ bv) = (id : ByteArray → ByteArray) := by funext x; exact zbe0 x
  rw [this, List.map_id]
  rfl
theorem z9m : ∀ (a b : List ByteArray) (st : RSt) (i : Nat), zhr st i (a ++ b) = match zhr st i a with
    | .error e => .error e
    | .ok st' => zhr st' (i + a.length) b
  | [], b, st, i => rfl
  | s :: a, b, st, i => by
    rw [List.cons_append, zhr, zhr]
    cases zrz st s with
    | error e => rfl
    | ok st' =>
      simp only
      rw [z9m a b st' (i + 1)]
      cases zhr st' (i + 1) a with
      | error e => rfl
      | ok st2 => simp only [List.length_cons]; rw [show i + 1 + a.length = i + (a.length + 1) by omega]
theorem zbao : ∀ (l : List ByteArray) (st : RSt) (i : Nat), zhr st (i + 2) l = match zhr st i l with
    | .error (n, e) => .error (n + 2, e)
    | .ok st' => .ok st'
  | [], st, i => rfl
  | s :: l, st, i => by
    rw [zhr, zhr]
    cases zrz st s with
    | error e => simp only
    | ok st' =>
      simp only
      rw [show i + 2 + 1 = i + 1 + 2 by omega, zbao l st' (i + 1)]
theorem zxi : ∀ {l : List ByteArray} {st : RSt} {i n : Nat} {e : Int}, zhr st i l = .error (n, e) → i < n ∧ n ≤ i + l.length
  | [], st, i, n, e, h => by cases h
  | s :: l, st, i, n, e, h => by
    rw [zhr] at h
    cases hl : zrz st s with
    | error e' => rw [hl] at h; cases h; exact ⟨by omega, by simp⟩
    | ok st' =>
      rw [hl] at h
      have := zxi h
      simp only [List.length_cons]
      omega
theorem zbfg (st : RSt) : zrz st zhl = .ok st ∧ zrz st zbdf = .ok st := by
  constructor
  · rw [zrz, if_pos (.inl rfl)]
  · rw [zrz, if_pos (.inr (by decide))]
theorem zbld (ls : List ByteArray) (put : Nat) (hp : put ≤ ls.length) : zhr zsh 0 (ls.take put ++ [zhl, zbdf] ++ ls.drop put) = match zhr zsh 0 ls with
    | .error (n, e) => .error (if n > put then n + 2 else n, e)
    | .ok st => .ok st := by
  have hl : ls = ls.take put ++ ls.drop put := (List.take_append_drop put ls).symm
  have e1 : zhr zsh 0 ls = match zhr zsh 0 (ls.take put) with
    | .error e => .error e
    | .ok st' => zhr st' (0 + (ls.take put).length) (ls.drop put) := by
    conv => lhs; rw [hl]
    exact z9m _ _ _ _
  rw [List.append_assoc, z9m, e1]
  have htl : (ls.take put).length = put := by rw [List.length_take]; omega
  cases h1 : zhr zsh 0 (ls.take put) with
  | error ne =>
    obtain ⟨n, e⟩ := ne
    have := zxi h1
    rw [htl] at this
    simp only
    rw [if_neg (by omega)]
  | ok st =>
    simp only
    rw [htl, Nat.zero_add]
    rw [List.cons_append, List.cons_append, List.nil_append, zhr, (zbfg st).1]
    simp only
    rw [zhr, (zbfg st).2]
    simp only
    rw [show put + 1 + 1 = put + 2 by omega, zbao]
    cases h2 : zhr st put (ls.drop put) with
    | error ne =>
      obtain ⟨n, e⟩ := ne
      have := zxi h2
      simp only
      rw [if_pos (by omega)]
    | ok st' => rfl
theorem zbmt (s : ByteArray) : s.size = (bv s).length := (zet s).symm
theorem zbfh : ∀ {ls : List ByteArray}, (∀ l ∈ ls, l.size ≤ 200) → (zmi ls).length ≤ 201 * ls.length
  | [], _ => by simp [zmi]
  | l :: ls, h => by
    have h1 := h l (by simp)
    have ih := zbfh (ls := ls) (fun x hx => h x (List.mem_cons_of_mem _ hx))
    rw [zp7]
    simp only [List.length_append, List.length_cons, List.length_nil, zet]
    omega
theorem zbg9 (l : List ByteArray) : (l ++ [zhl]).getLastD zhl = zhl := by simp
theorem zbdg {t : ByteArray} {ls : List ByteArray} (hs : t.size ≤ 65536) (h : bv t = zmi ls) (hn : ∀ l ∈ ls, noNl l) : zhm t = match zhr zsh 0 ls with
    | .error (n, e) => (se0, n, e)
    | .ok st => if z9g st.sy st.us st.idle ≠ 0 then (se0, 0, z9g st.sy st.us st.idle) else (⟨st.sy, st.us, st.idle⟩, 0, 0) := by
  rw [zhm, if_neg (by omega)]
  simp only
  rw [zbjo h hn, List.dropLast_concat, zbg9]
  cases zhr zsh 0 ls with
  | error e => rfl
  | ok st => simp only; rw [if_neg (fun q => q rfl)]
theorem zbod {ls : List ByteArray} {put : Nat} (hn : ls.length ≤ 100) (hs : ∀ l ∈ ls, l.size ≤ 200 ∧ noNl l) (hp : put ≤ ls.length) :
    (zhm (z0w put 0 zhl ls)).1 = (zhm (zxh zhl ls)).1 ∧ (zhm (z0w put 0 zhl ls)).2.2 = (zhm (zxh zhl ls)).2.2 ∧
    (zhm (z0w put 0 zhl ls)).2.1 = if (zhm (zxh zhl ls)).2.1 > put ∧ put < ls.length then (zhm (zxh zhl ls)).2.1 + 2 else (zhm (zxh zhl ls)).2.1 := by
  have b1 := zbjm ls zhl
  have b2 := zbjn put ls 0 zhl
  have e0 : bv zhl = [] := rfl
  rw [e0, List.nil_append] at b1 b2
  have hl := zbfh (fun l hl => (hs l hl).1)
  have t1 := zbdg (by rw [zbmt, b1]; omega) b1 (fun l hl => (hs l hl).2)
  by_cases hc : put < ls.length
  · rw [if_pos ⟨Nat.zero_le _, by omega⟩, Nat.sub_zero] at b2
    have hlen2 : (zmi (ls.take put ++ [zhl, zbdf] ++ ls.drop put)).length ≤ 30000 := by
      have h1 : (zmi ls).length = (zmi (ls.take put)).length + (zmi (ls.drop put)).length := by
        rw [← List.length_append, ← zuy, List.take_append_drop]
      have h2 : (zmi [zhl, zbdf]).length = 24 := by decide
      rw [zuy, zuy, List.length_append, List.length_append, h2]
      omega
    have hno : ∀ l ∈ ls.take put ++ [zhl, zbdf] ++ ls.drop put, noNl l := fun l hl => by
      rw [List.mem_append, List.mem_append] at hl
      rcases hl with (hl | hl) | hl
      · exact (hs l (List.mem_of_mem_take hl)).2
      · simp only [List.mem_cons, List.not_mem_nil, or_false] at hl
        rcases hl with rfl | rfl
        · intro b hb; cases hb
        · unfold noNl; decide
      · exact (hs l (List.mem_of_mem_drop hl)).2
    have t2 := zbdg (by rw [zbmt, b2]; omega) b2 hno
    rw [zbld ls put hp] at t2
    rw [t1, t2]
    cases h : zhr zsh 0 ls with
    | error ne =>
      obtain ⟨n, e⟩ := ne
      simp only
      refine ⟨trivial, trivial, ?_⟩
      by_cases hn2 : n > put
      · rw [if_pos hn2, if_pos ⟨by omega, hc⟩]; push_cast; rfl
      · rw [if_neg hn2, if_neg (by omega)]
    | ok st =>
      simp only
      by_cases hnew : z9g st.sy st.us st.idle ≠ 0
      · rw [if_pos hnew]; refine ⟨trivial, trivial, ?_⟩; rw [if_neg (by simp only; omega)]
      · rw [if_neg hnew]; refine ⟨trivial, trivial, ?_⟩; rw [if_neg (by simp only; omega)]
  · rw [if_neg (by omega)] at b2
    have : z0w put 0 zhl ls = zxh zhl ls := zbby (b2.trans b1.symm)
    rw [this, if_neg (fun q => hc q.2)]
    exact ⟨rfl, rfl, rfl⟩
end Go.AM.Cap
