import Derived.Test.YtcmimkacafphkaaGreatDoorCoN
import Derived.Test.YtcmimkacafphkaaGreatDoorAmOpenF
import Derived.Test.YtcmimkacafphkaaGreatDoorRows
import Derived.WalkKit
import Derived.ProofKit
import Derived.Deep.DeepHandedRow
import Derived.LaidHandle
import Derived.Lib.LaidTab
import Derived.Shelf.Vars
set_option linter.all false
/- code: the chapter's example -/
set_option maxHeartbeats 16000000
namespace Go.AM.Cap
open Go.AM Go.Proofs
theorem z9k {α : Type} [Flat α] {H : Heap} {b n m : Nat} {xs : List α} (hn : n = Flat.size α) (hm : xs.length = m) (h : H.get b = some (.cells true (zr xs))) : Sl H (slc b 0 n m m) xs := by
  subst hn; subst hm
  exact .inr ⟨b, 0, _, _, rfl, Nat.le_refl _, Heap.get_lt h, .inr ⟨true, _, h, by rw [zes]; omega, by rw [List.drop_zero, ← zes xs, List.take_length]⟩, .inr rfl⟩
def exI (c : List Ins) : PIm := ⟨⟨#[80]⟩, [2], [0], [], [], c⟩
def z7v : List Ins := [⟨1, 2, 0, 5⟩, ⟨3, 0, 0, 0⟩, ⟨12, 0, 0, 0⟩]
def z3j : List Ins := [⟨1, 2, 0, 5⟩, ⟨2, 1, 0, 0⟩, ⟨12, 0, 0, 0⟩]
theorem zbli (c : List Ins) (hc : c.length = 3) : zwz (exI c) := by
  refine ⟨by show zv2 ⟨#[80]⟩ = true; decide +kernel, rfl, by show 1 ≤ 1024; omega, ?_, ?_, by show 0 ≤ 1; omega, fun j hj => ?_, by simp [exI], by simp [exI]⟩
  · show 1 ≤ c.length; omega
  · show c.length ≤ 4096; omega
  · have : j = 0 := by simpa [exI] using hj
    subst this
    show fits 2 0
    decide
theorem zbop : zt3 [2] 3 ⟨1, 2, 0, 5⟩ = true := zny.2 ⟨0, by decide, rfl, by decide, by decide, by decide, by
  show zfz [2] 3 zdh _
  unfold zfz
  rw [if_neg (by decide), if_neg (by decide), if_neg (by decide), if_pos rfl]
  decide⟩
theorem zbs8 : zt3 [2] 3 ⟨3, 0, 0, 0⟩ = true := zny.2 ⟨2, by decide, rfl, by decide, by decide, by decide, by
  show zfz [2] 3 zcl _
  unfold zfz
  rw [if_pos rfl]
  exact ⟨[2], rfl⟩⟩
theorem zbxl : zt3 [2] 3 ⟨12, 0, 0, 0⟩ = true := zny.2 ⟨11, by decide, rfl, by decide, by decide, by decide, by
  show zfz [2] 3 zd2 _
  unfold zfz
  rw [if_neg (by decide), if_neg (by decide), if_neg (by decide), if_neg (by decide), if_neg (by decide), if_neg (by decide), if_neg (by decide), if_neg (by decide)]
  trivial⟩
theorem zbva : zt3 [2] 3 ⟨2, 1, 0, 0⟩ = false := by
  rw [← Bool.not_eq_true, zny]
  rintro ⟨k, _, hk, _, _, _, ha⟩
  have : k = 1 := by simp only at hk; omega
  subst this
  have ha : zfz [2] 3 zcl ⟨2, 1, 0, 0⟩ := ha
  unfold zfz at ha
  rw [if_pos rfl] at ha
  obtain ⟨l, hl⟩ := ha
  cases hl
theorem zbqj : zfa (exI z7v) = (0, 0) := by
  unfold zfa
  rw [if_pos (zbli _ rfl)]
  have : zoi (fun i => !zt3 [2] 3 i) z7v = none := by
    rw [zt6]
    intro x hx
    simp only [z7v, List.mem_cons, List.not_mem_nil, or_false] at hx
    rcases hx with rfl | rfl | rfl
    · rw [zbop]; rfl
    · rw [zbs8]; rfl
    · rw [zbxl]; rfl
  have e : zoi (fun i => !zt3 (exI z7v).types (exI z7v).code.length i) (exI z7v).code = none := this
  rw [e]
theorem zbqk : zfa (exI z3j) = (1, 130) := by
  unfold zfa
  rw [if_pos (zbli _ rfl)]
  have : zoi (fun i => !zt3 [2] 3 i) z3j = some 1 := by
    unfold z3j
    rw [zoi, zbop]
    rw [if_neg (by decide), zoi, zbva]
    rfl
  have e : zoi (fun i => !zt3 (exI z3j).types (exI z3j).code.length i) (exI z3j).code = some 1 := this
  rw [e]
  rfl
theorem zbvb : bya (zbom ⟨1, 2, 0, -5⟩) = ⟨#[80, 85, 83, 72, 32, 50, 32, 48, 32, 45, 53]⟩ := by
  have e1 : Lib.itoa 2 = [50] := by rw [Lib.itoa, if_neg (by decide), show (2 : Int).toNat = 2 from rfl, z9j (by decide)]; rfl
  have e2 : Lib.itoa 0 = [48] := by rw [Lib.itoa, if_neg (by decide), show (0 : Int).toNat = 0 from rfl, z9j (by decide)]; rfl
  have e3 : Lib.itoa (-5) = [45, 53] := by rw [Lib.itoa, if_pos (by decide), show (-5 : Int).natAbs = 5 from rfl, z9j (by decide)]; rfl
  unfold zbom
  rw [e1, e2, e3]
  rfl
theorem zbnm {H : Heap} {G : List V → M V} (hm : z9i H) (hp : z40 H) (ho : zy7 H) (Q : V → Heap → Prop) (hQ : ∀ H', Keeps [] H H' → Q (.bool true) H') : wp (zkq G zd5 z2n zqm z41 []) Q H := by
  show wp (zr0 G zd5 z2n zqm z41) Q H
  unfold zr0
  rw [zc4, zc4]
  refine (zbb (by rfl) (cs := zr [(2 : Int)]) (by rfl)).mpr ?_
  have k1 := Keeps.push [] H (some (.cells true (zr [(2 : Int)])))
  have g1 : (H.push (some (.cells true (zr [(2 : Int)])))).get H.next = some (.cells true (zr [(2 : Int)])) := Heap.get_push_self _ _
  generalize H.push (some (.cells true (zr [(2 : Int)]))) = H1 at *
  generalize hb1 : H.next = b1 at *
  rw [zc4]
  refine (zbb (by rfl) (cs := zr [(0 : Int)]) (by rfl)).mpr ?_
  have k2 := Keeps.push [] H1 (some (.cells true (zr [(0 : Int)])))
  have g2 : (H1.push (some (.cells true (zr [(0 : Int)])))).get H1.next = some (.cells true (zr [(0 : Int)])) := Heap.get_push_self _ _
  have g21 := k2.get g1 (by simp)
  generalize H1.push (some (.cells true (zr [(0 : Int)]))) = H2 at *
  generalize hb2 : H1.next = b2 at *
  (try simp (maxSteps := 1000000) (disch := first | omega | (simp only [Z3]; omega) | (simp; done) | assumption | decide | (refine not_not_intro ?_; assumption)) only [Z1, Z2, splice])
  refine (zbb (by rfl) (cs := zr z7v) (by rfl)).mpr ?_
  have k3 := Keeps.push [] H2 (some (.cells true (zr z7v)))
  have g3 : (H2.push (some (.cells true (zr z7v)))).get H2.next = some (.cells true (zr z7v)) := Heap.get_push_self _ _
  have g31 := k3.get g21 (by simp)
  have g32 := k3.get g2 (by simp)
  generalize H2.push (some (.cells true (zr z7v))) = H3 at *
  generalize hb3 : H2.next = b3 at *
  have k03 := (k1.trans k2 (by simp)).trans k3 (by simp)
  (try simp (maxSteps := 1000000) (disch := first | omega | (simp only [Z3]; omega) | (simp; done) | assumption | decide | (refine not_not_intro ?_; assumption)) only [Z1, Z2, splice])
  have s1 : Sl H3 (slc b1 0 1 1 1) [(2 : Int)] := z9k rfl rfl g31
  have s2 : Sl H3 (slc b2 0 1 1 1) [(0 : Int)] := z9k rfl rfl g32
  have s3 : Sl H3 (slc b3 0 4 3 3) z7v := z9k rfl rfl g3
  have hn3 : b3 < H3.next := Heap.get_lt g3
  have hb13 : b1 ≠ b3 := by have := k2.next; have := Heap.get_lt g1; omega
  have hb23 : b2 ≠ b3 := by have := Heap.get_lt g2; omega
  have k4 := Keeps.push [] H3 (some (.cells true [Value.string ⟨#[80]⟩, slc b1 0 1 1 1, slc b2 0 1 1 1, .slice none 0 0, .slice none 0 0, slc b3 0 4 3 3]))
  have g4 : (H3.push (some (.cells true [Value.string ⟨#[80]⟩, slc b1 0 1 1 1, slc b2 0 1 1 1, .slice none 0 0, .slice none 0 0, slc b3 0 4 3 3]))).get H3.next = some (.cells true [Value.string ⟨#[80]⟩, slc b1 0 1 1 1, slc b2 0 1 1 1, .slice none 0 0, .slice none 0 0, slc b3 0 4 3 3]) := Heap.get_push_self _ _
  generalize H3.push (some (.cells true [Value.string ⟨#[80]⟩, slc b1 0 1 1 1, slc b2 0 1 1 1, .slice none 0 0, .slice none 0 0, slc b3 0 4 3 3])) = H4 at *
  generalize hb4 : H3.next = b4 at *
  have k04 := k03.trans k4 (by simp)
  refine z5t (hm.keep k04) (x := ⟨⟨#[80]⟩, ⟨slc b1 0 1 1 1, [2], rfl⟩, ⟨slc b2 0 1 1 1, [0], rfl⟩, ⟨.slice none 0 0, [], rfl⟩, ⟨.slice none 0 0, [], rfl⟩, ⟨slc b3 0 4 3 3, z7v, rfl⟩⟩)
    ⟨s1.keep0 k4, s2.keep0 k4, Sl.nil _, Sl.nil _, s3.keep0 k4⟩ (by show 1 ≤ 100000000; omega) (by show 1 ≤ 100000000; omega) (by show 0 ≤ 100000000; omega) (by show 0 ≤ 100000000; omega) (by show 3 ≤ 100000000; omega) _ fun H5 k5 => ?_
  rw [show Im.p _ = exI z7v from rfl, zbqj]
  have g5 := k5.get g4 (by simp)
  have g53 := (k4.trans k5 (by simp)).get g3 (by simp)
  have k05 := k04.trans k5 (by simp)
  have ia : zbo 4 (slc b3 0 4 3 3) (Value.int .i64 1) = some (ptr b3 4) := rfl
  have hb34 : b4 ≠ b3 := by omega
  (try simp (maxSteps := 1000000) (disch := first | omega | (simp only [Z3]; omega) | (simp; done) | assumption | decide | (refine not_not_intro ?_; assumption)) only [Z1, Z2, splice, g5, ia, g53])
  have g51 := (k4.trans k5 (by simp)).get g31 (by simp)
  have g52 := (k4.trans k5 (by simp)).get g32 (by simp)
  show wp (zfx G zd5 [_]) _ (H5.set b3 (some (.cells true (zr z3j))))
  have hb3H : H.next ≤ b3 := by have := k1.next; have := k2.next; omega
  have k6 : Keeps [] H (H5.set b3 (some (.cells true (zr z3j)))) := zbm k05 (.inr hb3H)
  have g61 : (H5.set b3 (some (.cells true (zr z3j)))).get b1 = some (.cells true (zr [(2 : Int)])) := by rw [Heap.get_set_ne _ _ _ hb13]; exact g51
  have g62 : (H5.set b3 (some (.cells true (zr z3j)))).get b2 = some (.cells true (zr [(0 : Int)])) := by rw [Heap.get_set_ne _ _ _ hb23]; exact g52
  have g63 : (H5.set b3 (some (.cells true (zr z3j)))).get b3 = some (.cells true (zr z3j)) := Heap.get_set_eq (Heap.get_lt g53)
  generalize H5.set b3 (some (.cells true (zr z3j))) = H6 at *
  have s61 : Sl H6 (slc b1 0 1 1 1) [(2 : Int)] := z9k rfl rfl g61
  have s62 : Sl H6 (slc b2 0 1 1 1) [(0 : Int)] := z9k rfl rfl g62
  have s63 : Sl H6 (slc b3 0 4 3 3) z3j := z9k rfl rfl g63
  refine z5t (hm.keep k6) (x := ⟨⟨#[80]⟩, ⟨slc b1 0 1 1 1, [2], rfl⟩, ⟨slc b2 0 1 1 1, [0], rfl⟩, ⟨.slice none 0 0, [], rfl⟩, ⟨.slice none 0 0, [], rfl⟩, ⟨slc b3 0 4 3 3, z3j, rfl⟩⟩)
    ⟨s61, s62, Sl.nil _, Sl.nil _, s63⟩ (by show 1 ≤ 100000000; omega) (by show 1 ≤ 100000000; omega) (by show 0 ≤ 100000000; omega) (by show 0 ≤ 100000000; omega) (by show 3 ≤ 100000000; omega) _ fun H7 k7 => ?_
  rw [show Im.p _ = exI z3j from rfl, zbqk]
  have k07 := k6.trans k7 (by simp)
  (try simp (maxSteps := 1000000) (disch := first | omega | (simp only [Z3]; omega) | (simp; done) | assumption | decide | (refine not_not_intro ?_; assumption)) only [Z1, Z2, splice])
  refine zbu9 (k07.get hp (by simp)) (k07.get ho (by simp)) ⟨1, 2, 0, -5⟩ ⟨by decide, by decide, by decide⟩ _ fun H8 k8 => ?_
  rw [zbvb]
  (try simp (maxSteps := 1000000) (disch := first | omega | (simp only [Z3]; omega) | (simp; done) | assumption | decide | (refine not_not_intro ?_; assumption)) only [Z1, Z2, splice])
  exact hQ _ (k07.trans k8 (by simp))
end Go.AM.Cap

/- code: CodeShows on the machine -/
set_option maxHeartbeats 8000000
namespace Go.AM.Cap
open Go.AM Go.Proofs
end Go.AM.Cap

/- code: how the arguments of its laws are opened; the listed variables -/
namespace Go.AM.Cap
open Go.AM Go.Proofs Go.Proofs.YtcmimkacafphkaaGreatDoor Go.ChangeShapes Go.WideShapes Go.RowKit
def noM (_ : List V) : M V := fail
theorem known_no {P : Program} {f : Nat} (h : z8m P f = true) : zk P f noM := ⟨h, fun N w₀ ρ H w args args' r H' hG hR ha hl => (ze hl).elim⟩
theorem blocks_of {P : Program} {W : World} (h : W.ShapedOpen P) {n : Nat} (hg : P.globals.size = n + 1) (hz : ((((begin P (fun _ _ => 0) default).world.heap[n]?).bind Obj.row?).isSome) = true) : P.globals.size ≤ W.heap.size := by
  obtain ⟨x, hx⟩ := Option.isSome_iff_exists.1 hz
  obtain ⟨cs, hc, _⟩ := h.1 n x.1 x.2 (by omega) hx
  rw [hg]
  by_cases q : n < W.heap.size
  · omega
  · rw [Array.getElem?_eq_none (by omega)] at hc; cases hc
theorem maxL {W : World} (h : W.ShapedOpen Tryz.prog) : z9i (zze W) := by
  obtain ⟨m, hm⟩ := cell_of_shapedOpen_int (g := 3) (t := 3) (zero := #[.int .i64 0]) (k := .i64) h (by rw [show Tryz.prog.globals.size = 8 by kernel_rfl]; decide) (by kernel_rfl) rfl (by kernel_rfl) (by kernel_rfl) (by kernel_rfl)
  refine ⟨m, ?_⟩
  unfold World.cell? at hm
  split at hm
  · rename_i c t f hb
    have hb' : W.heap[3]? = some (.cells c t f) := hb
    unfold Heap.cell
    rw [zw8, hb']
    have h0 : c[0]? = some (.int .i64 m) := by simpa using hm
    show (c.toList.map (absV W.heap.size))[0]? = _
    rw [List.getElem?_map, Array.getElem?_toList, h0]
    rfl
  · cases hm
theorem pow10 {W : World} (h : laidMetH Tryz.prog Rows.codeShowsRow.laid W) : z40 (zze W) := by
  have h1 := laidMetH.filter (fun x => x.1 == "internal/strconv.uint64pow10") h
  have t1 : Lib.TabIs Tryz.prog W "internal/strconv.uint64pow10" .u64 [1, 10, 100, 1000, 10000, 100000, 1000000, 10000000, 100000000, 1000000000, 10000000000, 100000000000, 1000000000000, 10000000000000, 100000000000000, 1000000000000000, 10000000000000000, 100000000000000000, 1000000000000000000, 10000000000000000000] :=
    Lib.tabIs_of_head (rest := []) (g := 1) (n := 20) (t := 154) (e := 36) (by kernel_rfl) (by kernel_rfl) (by kernel_rfl) (by kernel_rfl) (by kernel_rfl) (by kernel_rfl) h1
  exact (zbp3 t1 (by kernel_rfl)).2
theorem zbfw {H : Type} {enc : TypeId × Value → H} {P : Program} {w : World} {base : Nat} {sp : Nat → Bool} {held : Bool} {fuel : Nat} {t e : TypeId} {n : Nat} {cs : List Value} {zs : List (List UInt8)} {p : List MemPlace}
    (ht : P.underlying t = some (.array n e)) (he : P.underlying e = some .string) (hce : P.cellsOf e = 1) (hct : P.cellsOf t = n)
    (h : DataW.trod enc P w base sp held fuel t cs = some (.agg (zs.map fun z => .lit (.string z)), p)) : cs = zs.map fun z => Value.string (bya z) := by
  cases fuel with
  | zero => simp [DataW.trod] at h
  | succ fuel =>
    simp only [DataW.trod, ht, hce, hct, Nat.mul_one] at h
    split at h
    · rename_i hl
      obtain ⟨xs, hm, hx⟩ := Option.map_eq_some_iff.1 h
      have hxs : xs.map (·.1) = zs.map fun z => (DataW.lit (.string z) : DataW H) := by
        have := congrArg Prod.fst hx
        simpa using this
      have hxl : xs.length = n := by simpa using Lib.mapM_length hm
      have hzl : zs.length = n := by
        have := congrArg List.length hxs
        simp at this
        omega
      apply List.ext_getElem?
      intro i
      by_cases hi : i < n
      · obtain ⟨b, hb, hf⟩ := Lib.mapM_at hm i i (by simp [hi])
        obtain ⟨z, hc, rfl, _⟩ := DataW.trod_string he hf
        have h1 : cs[i]? = some (.string z) := by
          have := congrArg (·[0]?) hc
          simpa [List.getElem?_take, List.getElem?_drop] using this
        have h2 : (xs.map (·.1))[i]? = some (DataW.lit (.string z.data.toList) : DataW H) := by simp [hb]
        rw [hxs] at h2
        simp only [List.getElem?_map, Option.map_eq_some_iff, DataW.lit.injEq, Lit.string.injEq] at h2
        obtain ⟨z', hz', rfl⟩ := h2
        rw [h1, List.getElem?_map, hz']
        rfl
      · rw [List.getElem?_eq_none (by omega), List.getElem?_eq_none (by simp; omega)]
    · cases h
theorem opNames {W : World} (h : laidMetH Tryz.prog Rows.codeShowsRow.laid W) : zy7 (zze W) := by
  have h1 := laidMetH.filter (fun x => x.1 == "capstan/code.opNames") h
  have h2 : laidMet Tryz.prog [("capstan/code.opNames", .agg (zvb.map fun z => .lit (.string z)))] W := h1
  obtain ⟨ps, ⟨g', t', cs, fuel, p, q, hg', ht', hvar, hd, _, _⟩, _⟩ := h2
  obtain rfl := Option.some.inj ((show Tryz.prog.globalNamed "capstan/code.opNames" = some Cap.gid_code_opNames by kernel_rfl).symm.trans hg')
  obtain rfl := Option.some.inj ((show (Tryz.prog.globals[Cap.gid_code_opNames]?).map (·.type) = some 46 by kernel_rfl).symm.trans ht')
  have hcs := zbfw (n := 13) (e := 9) (by kernel_rfl) (by kernel_rfl) (by kernel_rfl) (by kernel_rfl) hd
  unfold World.var? at hvar
  rw [hg'] at hvar
  simp only [Option.bind_eq_bind, Option.bind_some] at hvar
  split at hvar
  · rename_i C e f hC
    cases hvar
    have hC' : W.heap[Cap.gid_code_opNames]? = some (.cells cs e f) := hC
    unfold zy7
    rw [zw8, hC']
    show some (Blk.cells false (cs.toList.map (absV W.heap.size))) = _
    rw [hcs]
    rfl
  · cases hvar
def zbs9 : DataW Unit → List V
  | .lit (.int k n) => [.int k n]
  | .lit (.string l) => [.string ⟨l.toArray⟩]
  | _ => []
def zbta : DataW Unit → List V
  | .agg ds => ds.flatMap zbs9
  | d => zbs9 d
def z9l : DataW Unit → List V
  | .agg ds => ds.flatMap zbta
  | d => zbta d
def lay (cs : List V) (o : Obj) : Obj := match o with
  | .cells _ t frozen => .cells cs.toArray t frozen
  | o => o
noncomputable def zbgr (os : Os) : World :=
  { World.holding Tryz.prog os ⟨#[], #[], []⟩ with heap := ((((((World.holding Tryz.prog os ⟨#[], #[], []⟩).heap.modify 4 (lay (z9l Rows.laid_math_bits_deBruijn32tab))).modify 5 (lay (z9l Rows.laid_math_bits_deBruijn64tab))).modify 1 (lay (z9l Rows.laid_internal_strconv_uint64pow10))).modify 6 (lay (z9l Rows.laid_unicode_utf8_first))).modify 7 (lay (z9l Rows.laid_unicode_utf8_acceptRanges))).modify Cap.gid_code_opNames (lay (z9l Rows.laid_capstan_code_opNames)) }
section
variable {H : Type} {enc : TypeId × Value → H} {P : Program} {W : World}
end
end Go.AM.Cap

/- code: an image of its own (written by genco.py) -/
set_option maxHeartbeats 16000000
namespace Go.AM.Cap
open Go.AM Go.Proofs
theorem zv4 {α : Type} [Flat α] {H : Heap} {v : V} {l : List α} (h : Sl H v l) : zyj (some v) v = true := by
  rcases h with ⟨rfl, _⟩ | ⟨b, o, u, c, rfl, _⟩ <;> simp [zyj, vEq, vEq.vEq1]
end Go.AM.Cap

/- code: what is put behind; CodeOwn on the machine -/
set_option maxHeartbeats 16000000
namespace Go.AM.Cap
open Go.AM Go.Proofs
theorem z5u {p : PIm} : (zfa p).2 = 0 ↔ zwz p ∧ ∀ i ∈ p.code, zt3 p.types p.code.length i = true := by
  unfold zfa
  by_cases hs : zwz p
  · rw [if_pos hs]
    cases hi : zoi (fun i => !zt3 p.types p.code.length i) p.code with
    | none =>
      rw [zt6] at hi
      simp only [true_iff]
      exact ⟨hs, fun i hm => by have := hi i hm; simpa using this⟩
    | some j =>
      obtain ⟨h1, h2, _⟩ := z9g (d := default) hi
      refine ⟨fun q => absurd q (by show ¬ ((130 : Int) = 0); decide), fun q => ?_⟩
      have := q.2 _ (zij (d := default) h1)
      rw [this] at h2
      cases h2
  · rw [if_neg hs]
    exact ⟨fun q => absurd q (by show ¬ ((130 : Int) = 0); decide), fun q => absurd q.1 hs⟩
theorem zbnn (p : PIm) : (zfa p).2 = 0 ∨ (zfa p).2 = 130 := by
  unfold zfa
  split
  · split
    · exact .inr rfl
    · exact .inl rfl
  · exact .inr rfl
end Go.AM.Cap

/- code: CodeOwn on the machine -/
set_option maxHeartbeats 16000000
namespace Go.AM.Cap
open Go.AM Go.Proofs
end Go.AM.Cap
