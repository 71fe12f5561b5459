import Derived.Test.YtcmimkacafphkaaGreatDoorCoPi
import Derived.Test.YtcmimkacafphkaaGreatDoorCoRj
import Derived.Test.YtcmimkacafphkaaGreatDoorAmOpenF
import Derived.Test.YtcmimkacafphkaaGreatDoorJCode
set_option linter.all false
/- code: CodeReads, CodeBack on the machine -/
set_option maxHeartbeats 16000000
namespace Go.AM.Cap
open Go.AM Go.Proofs

theorem back_ok {H : Heap} {G : List V → M V} (hT : Tok H) (hm : MaxL H) (hp : Pow10 H) (ho : OpNames H) {x : Im} (h : ImAt H x) (hn : x.name.size ≤ 10000000) (hl : x.types.xs.length ≤ 10000000) (hf : x.first.xs.length ≤ 10000000) (hi : x.ins.xs.length ≤ 10000000) (hu : x.outs.xs.length ≤ 10000000) (hc : x.code.xs.length ≤ 10000000) (b : ByteArray) : wp (A_law13_CodeBack G containsF itoaF formatF joinF asF [.agg (Flat.enc x).toArray, .string b]) (fun r _ => r = .bool true) H := by
  show wp (F_law13_CodeBack G containsF itoaF formatF joinF asF (.agg (Flat.enc x).toArray) (.string b)) _ H
  have h1 := im_one x
  unfold F_law13_CodeBack
  rw [wp_bnd, wp_bnd, enc_im]
  refine (wp_boxg h1).mpr ?_
  have k1 : Keeps [] H (H.push (some (.cells true [.string x.name, x.types.v, x.first.v, x.ins.v, x.outs.v, x.code.v]))) := Keeps.push _ _ _
  have g1 : (H.push (some (.cells true [.string x.name, x.types.v, x.first.v, x.ins.v, x.outs.v, x.code.v]))).get H.next = some (.cells true [.string x.name, x.types.v, x.first.v, x.ins.v, x.outs.v, x.code.v]) := Heap.get_push_self _ _
  generalize H.push (some (.cells true [.string x.name, x.types.v, x.first.v, x.ins.v, x.outs.v, x.code.v])) = H1 at *
  generalize hpp : H.next = p at *
  (try simp (maxSteps := 1000000) (disch := first | omega | (simp only [Z3]; omega) | (simp; done) | assumption | decide | (refine not_not_intro ?_; assumption)) only [Z1, Z2, splice])
  refine imWorks_ok (hm.keep k1) (k1.get hp (by simp)) (k1.get ho (by simp)) _ fun H2 k2 => ?_
  have k02 := k1.trans k2 (by simp)
  have g2 := k2.get g1 (by simp)
  (try simp (maxSteps := 1000000) (disch := first | omega | (simp only [Z3]; omega) | (simp; done) | assumption | decide | (refine not_not_intro ?_; assumption)) only [Z1, Z2, splice, law13_CodeBack_k2, g2])
  rw [← enc_im]
  refine encode_ok (hm.keep k02) (h.keep0 k02) hl hf hi hu hc _ fun H3 k3 => ?_
  have g3 := k3.get g2 (by simp)
  have k03 := k02.trans k3 (by simp)
  -- the second half
  have second : ∀ (H4 : Heap) (Q : V → Heap → Prop), Keeps [] H H4 → (∀ H', Q (.bool true) H') → wp (law13_CodeBack_k1 G containsF itoaF formatF joinF asF [.string b]) (fun o H' => wp (finM o fun vs => ret (outV [at_ vs 0])) Q H') H4 := fun H4 Q k04 hQ => by
    (try simp (maxSteps := 1000000) (disch := first | omega | (simp only [Z3]; omega) | (simp; done) | assumption | decide | (refine not_not_intro ?_; assumption)) only [Z1, Z2, splice, law13_CodeBack_k1])
    refine code_decode_ok (hT.keep0 k04) (hm.keep k04) b _ fun y H5 k5 hy hyp => ?_
    have o2 := im_one y
    have k05 := k04.trans k5 (by simp)
    rw [enc_im]
    (try simp (maxSteps := 1000000) (disch := first | omega | (simp only [Z3]; omega) | (simp; done) | assumption | decide | (refine not_not_intro ?_; assumption)) only [Z1, Z2, splice])
    have k6 : Keeps [] H5 (H5.push (some (.cells true [.string y.name, y.types.v, y.first.v, y.ins.v, y.outs.v, y.code.v]))) := Keeps.push _ _ _
    have g6 : (H5.push (some (.cells true [.string y.name, y.types.v, y.first.v, y.ins.v, y.outs.v, y.code.v]))).get H5.next = some (.cells true [.string y.name, y.types.v, y.first.v, y.ins.v, y.outs.v, y.code.v]) := Heap.get_push_self _ _
    generalize H5.push (some (.cells true [.string y.name, y.types.v, y.first.v, y.ins.v, y.outs.v, y.code.v])) = H6 at *
    generalize H5.next = q at *
    have k06 := k05.trans k6 (by simp)
    by_cases hz : (decodeS b).2 = 0
    case neg =>
      have hb := decodeS_bad hz
      rw [hb] at hyp
      have e1 : y.name = ⟨#[]⟩ := congrArg PIm.name hyp
      have e2 : y.code.xs = [] := congrArg PIm.code hyp
      have lc := hy.code.len
      rw [e2] at lc
      have lc0 : lenSlc y.code.v = some (i64 0) := lc
      rw [hb]
      (try simp (maxSteps := 1000000) (disch := first | omega | (simp only [Z3]; omega) | (simp; done) | assumption | decide | (refine not_not_intro ?_; assumption)) only [Z1, Z2, splice, g6, lc0, e1])
      exact hQ _
    have henc := decodeS_good hz
    have hcy := (enc_items henc).1
    obtain ⟨z1, z2, z3, z4, _⟩ := sound_raw hcy
    have z5 := (check_zero.1 hcy).1.2.2.2.2.1
    rw [← hyp] at henc z1 z2 z3 z4 z5
    have z1 : y.types.xs.length = y.first.xs.length := z1
    have z2 : y.types.xs.length ≤ 1024 := z2
    have z3 : y.ins.xs.length ≤ 1024 := z3
    have z4 : y.outs.xs.length ≤ 1024 := z4
    have z5 : y.code.xs.length ≤ 4096 := z5
    rw [hz]
    (try simp (maxSteps := 1000000) (disch := first | omega | (simp only [Z3]; omega) | (simp; done) | assumption | decide | (refine not_not_intro ?_; assumption)) only [Z1, Z2, splice, law13_CodeBack_k0, g6])
    rw [← enc_im]
    refine encode_ok (hm.keep k06) (hy.keep0 k6) (by omega) (by omega) (by omega) (by omega) (by omega) _ fun H7 k7 => ?_
    rw [henc]
    (try simp (maxSteps := 1000000) (disch := first | omega | (simp only [Z3]; omega) | (simp; done) | assumption | decide | (refine not_not_intro ?_; assumption)) only [Z1, Z2, splice])
    exact hQ _
  by_cases hz : (encodeS x.p).2 = 0
  case neg =>
    have e := encode_bad hz
    rw [e]
    (try simp (maxSteps := 1000000) (disch := first | omega | (simp only [Z3]; omega) | (simp; done) | assumption | decide | (refine not_not_intro ?_; assumption)) only [Z1, Z2, splice, decide_eq_false hz])
    exact second _ _ k03 (fun _ => rfl)
  have henc : encodeS x.p = ((encodeS x.p).1, 0) := Prod.ext rfl hz
  have hds := decodeS_of henc
  generalize (encodeS x.p).1 = s at *
  rw [hz]
  (try simp (maxSteps := 1000000) (disch := first | omega | (simp only [Z3]; omega) | (simp; done) | assumption | decide | (refine not_not_intro ?_; assumption)) only [Z1, Z2, splice])
  refine code_decode_ok (hT.keep0 k03) (hm.keep k03) s _ fun y H4 k4 hy hyp => ?_
  have o2 := im_one y
  have k04 := k03.trans k4 (by simp)
  have g4 := k4.get g3 (by simp)
  rw [hds] at hyp ⊢
  rw [enc_im]
  (try simp (maxSteps := 1000000) (disch := first | omega | (simp only [Z3]; omega) | (simp; done) | assumption | decide | (refine not_not_intro ?_; assumption)) only [Z1, Z2, splice])
  have k5 : Keeps [] H4 (H4.push (some (.cells true [.string y.name, y.types.v, y.first.v, y.ins.v, y.outs.v, y.code.v]))) := Keeps.push _ _ _
  have g5y : (H4.push (some (.cells true [.string y.name, y.types.v, y.first.v, y.ins.v, y.outs.v, y.code.v]))).get H4.next = some (.cells true [.string y.name, y.types.v, y.first.v, y.ins.v, y.outs.v, y.code.v]) := Heap.get_push_self _ _
  have g5 := k5.get g4 (by simp)
  generalize H4.push (some (.cells true [.string y.name, y.types.v, y.first.v, y.ins.v, y.outs.v, y.code.v])) = H5 at *
  generalize H4.next = q at *
  have k05 := k04.trans k5 (by simp)
  (try simp (maxSteps := 1000000) (disch := first | omega | (simp only [Z3]; omega) | (simp; done) | assumption | decide | (refine not_not_intro ?_; assumption)) only [Z1, Z2, splice, g5, g5y])
  rw [← enc_im, ← enc_im]
  refine sameIm_ok (h.keep0 k05) (hy.keep0 k5) (by omega) (by omega) (by omega) (by omega) (by omega) _ fun H6 k6 => ?_
  have hs : x.p = y.p := hyp.symm
  have k06 := k05.trans k6 (by simp)
  (try simp (maxSteps := 1000000) (disch := first | omega | (simp only [Z3]; omega) | (simp; done) | assumption | decide | (refine not_not_intro ?_; assumption)) only [Z1, Z2, splice, decide_eq_true hs])
  exact second _ _ k06 (fun _ => rfl)
end Go.AM.Cap

/- code: the listed variables, a type's handle among them -/
namespace Go.AM.Cap
open Go.AM Go.Proofs Go.Proofs.YtcmimkacafphkaaGreatDoor Go.ChangeShapes Go.WideShapes Go.RowKit

theorem less {W : World} (h : laidMetH Tryz.prog Rows.codeReadsRow.laid W) : laidMetH Tryz.prog Rows.codeShowsRow.laid W := laidMetH.filter (fun x => !(x.1 == "errors.errorType")) h
theorem et : Tryz.prog.globalNamed "errors.errorType" = some 2 := by kernel_rfl
theorem rt : (Tryz.prog.cutTypes.find? (·.1 == "internal/reflectlite.rtype")).map (·.2) = some 189 := by kernel_rfl
theorem oneRow : ((List.range Tryz.prog.types.size).filter fun t => Tryz.prog.rowNamed t [101, 114, 114, 111, 114]) = [92] := by kernel_rfl
theorem handle {W : World} (h : laidMetH Tryz.prog Rows.codeReadsRow.laid W) : W.cell? ⟨2, 0, none⟩ = some (.iface 189 (.agg #[.pointer (some ⟨8, 92, none⟩)])) := by
  have h1 := laidMetH.filter (fun x => x.1 == "errors.errorType") h
  have h' : laidMet Tryz.prog [] W ∧ handlesMet Tryz.prog [("errors.errorType", Rows.laid_errors_errorType)] W := h1
  obtain ⟨name, u, ty, e1, e2, e3, e4, e5⟩ := h'.2 _ (List.mem_singleton.2 rfl)
  have en : name = [101, 114, 114, 111, 114] := (Option.some.inj e1).symm
  subst en
  obtain rfl := Option.some.inj (rt.symm.trans e2)
  have hm : ty ∈ (List.range Tryz.prog.types.size).filter fun t => Tryz.prog.rowNamed t [101, 114, 114, 111, 114] := List.mem_filter.2 ⟨List.mem_range.2 e3, e4⟩
  rw [oneRow] at hm
  obtain rfl := List.mem_singleton.1 hm
  have hh : typeHandle Tryz.prog 92 = .pointer (some ⟨8, 92, none⟩) := by kernel_rfl
  rw [hh] at e5
  simpa using World.var?_cell et e5 0
theorem tok {W : World} (h : laidMetH Tryz.prog Rows.codeReadsRow.laid W) : Tok (heap0 W) := by
  have hc := handle h
  unfold World.cell? at hc
  split at hc
  · rename_i c t f hb
    have hb' : W.heap[2]? = some (.cells c t f) := hb
    unfold Tok Heap.cell
    rw [heap0_get, hb']
    have h0 : c[0]? = some (.iface 189 (.agg #[.pointer (some ⟨8, 92, none⟩)])) := by simpa using hc
    show (c.toList.map (absV W.heap.size))[0]? = _
    rw [List.getElem?_map, Array.getElem?_toList, h0]
    rfl
  · cases hc
noncomputable def laidWorldT (os : Os) : World :=
  { laidWorld os with heap := (laidWorld os).heap.modify 2 (lay [.iface 189 (.agg #[.pointer (some ⟨8, 92, none⟩)])]) }
end Go.AM.Cap
