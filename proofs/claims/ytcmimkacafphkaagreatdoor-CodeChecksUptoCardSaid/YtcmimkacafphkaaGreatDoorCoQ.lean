import Derived.Test.YtcmimkacafphkaaGreatDoorCoP
import Derived.Test.YtcmimkacafphkaaGreatDoorAmOwnF
import Derived.Test.YtcmimkacafphkaaGreatDoorAmOpenF
set_option linter.all false
/- code: an image of its own (written by genco.py) -/
set_option maxHeartbeats 16000000
namespace Go.AM.Cap
open Go.AM Go.Proofs

theorem chk_slc {α : Type} [Flat α] {H : Heap} {v : V} {l : List α} (h : Sl H v l) : chkO (some v) v = true := by
  rcases h with ⟨rfl, _⟩ | ⟨b, o, u, c, rfl, _⟩ <;> simp [chkO, vEq, vEq.vEq1]
theorem flt_copy {α : Type} [Flat α] {H : Heap} {id n bytes : Nat} {zero : List V} {xv : V} {xs : List α} (hs : Flat.size α = n) (h : H.get id = none) (hl : id < H.next) (hz : zero.all flatV = true) (hf : fillA zero [] = some []) (hx : Sl H xv xs) (hb : xs.length * bytes ≤ 35184372088832) (hb2 : xs.length ≤ 35184372088832)
    (Q : V → Heap → Heap → Prop) (hQ : ∀ w H1 H2, Keeps [id] H H1 → Keeps [id] H H2 → OwnF H2 w xs → (∀ b ∈ vb w, b = id ∨ H.next ≤ b) → Q w H1 H2) : wp (flt id (bslc n 0 zero [])) (fun x H1 => wp (appV n bytes x xv) (fun w H2 => Q w H1 H2) H1) H := by
  subst hs
  refine wp_flt_bslc h hl hz hf ?_
  have k1 : Keeps [id] H (H.set id (some (.cells true []))) := Keeps.set (by simp)
  have hE : (H.set id (some (.cells true []))).get id = some (.cells true []) := Heap.get_set_self hl
  have hn : (H.set id (some (.cells true []))).next = H.next := by simp
  have hx1 : Sl (H.set id (some (.cells true []))) xv xs := by
    rcases hx with hx | ⟨b, o, u, c, rfl, hc, hb, hl2, hu⟩
    · exact .inl hx
    · refine .inr ⟨b, o, u, c, rfl, hc, by rw [hn]; exact hb, ?_, hu⟩
      rcases hl2 with rfl | ⟨rw_, cs, hg, q⟩
      · exact .inl rfl
      · refine .inr ⟨rw_, cs, ?_, q⟩
        have : b ≠ id := fun e => by rw [e, h] at hg; cases hg
        rw [Heap.get_set_ne _ _ _ this]; exact hg
  generalize H.set id (some (.cells true [])) = H1 at *
  have o1 : OwnF H1 (slc id 0 (Flat.size α) 0 0) ([] : List α) := .inr ⟨id, rfl, hE⟩
  refine ownF_appV rfl o1 hx1 (by simpa using hb) (by simpa using hb2) fun w H2 o2 k2 v2 => ?_
  rw [List.nil_append] at o2
  refine hQ w H1 H2 k1 (k1.trans (k2.mono (S' := [id]) (by simp)) (fun b hb hm => hm)) o2 fun b hb => ?_
  rcases v2 b hb with q | q
  · left; simpa using q
  · right; rw [← hn]; exact q
theorem copyIm_ok {H : Heap} {x : Im} (h : ImAt H x) (hl : x.types.xs.length ≤ 100000000) (hf : x.first.xs.length ≤ 100000000) (hi : x.ins.xs.length ≤ 100000000) (hu : x.outs.xs.length ≤ 100000000) (hc : x.code.xs.length ≤ 100000000)
    (Q : V → Heap → Prop) (hQ : ∀ H' (y : Im), y.p = x.p → Hp H H' [own y.types.v y.types.xs, own y.first.v y.first.xs, own y.ins.v y.ins.xs, own y.outs.v y.outs.xs, own y.code.v y.code.xs] → Q (.agg (Flat.enc y).toArray) H') : wp (A_book_CopyImage [.agg (Flat.enc x).toArray]) Q H := by
  show wp (F_book_CopyImage (.agg (Flat.enc x).toArray)) Q H
  have ho := im_one x
  unfold F_book_CopyImage
  rw [wp_bnd, wp_bnd, enc_im]
  refine (wp_boxg ho).mpr ?_
  have k1 : Keeps [] H (H.push (some (.cells true [.string x.name, x.types.v, x.first.v, x.ins.v, x.outs.v, x.code.v]))) := Keeps.push _ _ _
  have g1 : (H.push (some (.cells true [.string x.name, x.types.v, x.first.v, x.ins.v, x.outs.v, x.code.v]))).get H.next = some (.cells true [.string x.name, x.types.v, x.first.v, x.ins.v, x.outs.v, x.code.v]) := Heap.get_push_self _ _
  have n1 : (H.push (some (.cells true [.string x.name, x.types.v, x.first.v, x.ins.v, x.outs.v, x.code.v]))).next = H.next + 1 := by simp
  generalize H.push (some (.cells true [.string x.name, x.types.v, x.first.v, x.ins.v, x.outs.v, x.code.v])) = H1 at *
  generalize hp : H.next = p at *
  (try simp (maxSteps := 1000000) (disch := first | omega | (simp only [Z3]; omega) | (simp; done) | assumption | decide | (refine not_not_intro ?_; assumption)) only [Z1, Z2, splice])
  have k2 : Keeps [] H1 (H1.push (some (.cells true [.string ⟨#[]⟩, .slice none 0 0, .slice none 0 0, .slice none 0 0, .slice none 0 0, .slice none 0 0]))) := Keeps.push _ _ _
  have g2 : (H1.push (some (.cells true [.string ⟨#[]⟩, .slice none 0 0, .slice none 0 0, .slice none 0 0, .slice none 0 0, .slice none 0 0]))).get H1.next = some (.cells true [.string ⟨#[]⟩, .slice none 0 0, .slice none 0 0, .slice none 0 0, .slice none 0 0, .slice none 0 0]) := Heap.get_push_self _ _
  have n2 : (H1.push (some (.cells true [.string ⟨#[]⟩, .slice none 0 0, .slice none 0 0, .slice none 0 0, .slice none 0 0, .slice none 0 0]))).next = H1.next + 1 := by simp
  generalize H1.push (some (.cells true [.string ⟨#[]⟩, .slice none 0 0, .slice none 0 0, .slice none 0 0, .slice none 0 0, .slice none 0 0])) = H2 at *
  generalize hq : H1.next = q at *
  refine wp_withResv.mpr ?_
  have kr := resv_keeps 5 H2
  have nr := resv_next 5 H2
  have f0 : ∀ b, H2.next ≤ b → (resv H2 5).get b = none := fun b hb => resv_free hb
  generalize resv H2 5 = H3 at *
  generalize hB : H2.next = B at *
  have kk0 := (k1.trans k2 (by simp)).trans kr (by simp)
  have gp0 := (k2.trans kr (by simp)).get g1 (by simp)
  have gq0 := kr.get g2 (by simp)
  (try simp (maxSteps := 1000000) (disch := first | omega | (simp only [Z3]; omega) | (simp; done) | assumption | decide | (refine not_not_intro ?_; assumption)) only [Z1, Z2, splice, gp0])
  have c1 := chk_slc h.types
  have c2 := chk_slc h.first
  have c3 := chk_slc h.ins
  have c4 := chk_slc h.outs
  have c5 := chk_slc h.code
  have hnB : H.next + 2 ≤ B := by omega
  have fr0 : ∀ b, B ≤ b → b < B + 5 → H3.get b = none := fun b hb _ => f0 b hb
  have nC0 : B + 5 ≤ H3.next := by omega
  refine flt_copy (α := Int) rfl (fr0 (B) (by omega) (by omega)) (by omega) (by rfl) (by rfl) (h.types.keep0 kk0) (by omega) (by omega) _ fun w1 M1 C1 km1 kc1 o1 v1 => ?_
  have kk1 : Keeps [] H C1 := kk0.trans kc1 (fun b hb hm => by simp at hm; omega)
  have lC1 : H3.next ≤ C1.next := kc1.next
  have nC1 : B + 5 ≤ C1.next := by omega
  have fr1 : ∀ b, B + 1 ≤ b → b < B + 5 → C1.get b = none := fun b hb hb2 => by
    rw [kc1.same b (by omega) (by simp; omega)]; exact fr0 b (by omega) hb2
  have fm1 : ∀ b, B + 1 ≤ b → b < B + 5 → M1.get b = none ∧ b < M1.next := fun b hb hb2 => by
    have := km1.next
    rw [km1.same b (by omega) (by simp; omega)]; exact ⟨fr0 b (by omega) hb2, by omega⟩
  have gp1 := kc1.get gp0 (by simp; omega)
  have gq1 := kc1.get gq0 (by simp; omega)
  have lt1 := o1.lt
  have z1a : freeIn M1 [B + 1, B + 2, B + 3, B + 4] = true := freeIn_all fun b hb => fm1 b (by simp at hb; omega) (by simp at hb; omega)
  have z1b : freeIn C1 [B + 1, B + 2, B + 3, B + 4] = true := freeIn_all fun b hb => ⟨fr1 b (by simp at hb; omega) (by simp at hb; omega), by simp at hb; omega⟩
  (try simp (maxSteps := 1000000) (disch := first | omega | (simp only [Z3]; omega) | (simp; done) | assumption | decide | (refine not_not_intro ?_; assumption)) only [Z1, Z2, splice, z1a, z1b, Bool.and_self])
  refine flt_copy (α := Int) rfl (fr1 (B + 1) (by omega) (by omega)) (by omega) (by rfl) (by rfl) (h.first.keep0 kk1) (by omega) (by omega) _ fun w2 M2 C2 km2 kc2 o2 v2 => ?_
  have kk2 : Keeps [] H C2 := kk1.trans kc2 (fun b hb hm => by simp at hm; omega)
  have lC2 : C1.next ≤ C2.next := kc2.next
  have nC2 : B + 5 ≤ C2.next := by omega
  have fr2 : ∀ b, B + 2 ≤ b → b < B + 5 → C2.get b = none := fun b hb hb2 => by
    rw [kc2.same b (by omega) (by simp; omega)]; exact fr1 b (by omega) hb2
  have fm2 : ∀ b, B + 2 ≤ b → b < B + 5 → M2.get b = none ∧ b < M2.next := fun b hb hb2 => by
    have := km2.next
    rw [km2.same b (by omega) (by simp; omega)]; exact ⟨fr1 b (by omega) hb2, by omega⟩
  have gp2 := kc2.get gp1 (by simp; omega)
  have gq2 := kc2.get gq1 (by simp; omega)
  have lt2 := o2.lt
  have o1 := o1.keep kc2 (fun b hb hm => by have := v1 b hb; have := lt1 b hb; simp at hm; omega)
  have z2a : freeIn M2 [B + 2, B + 3, B + 4] = true := freeIn_all fun b hb => fm2 b (by simp at hb; omega) (by simp at hb; omega)
  have z2b : freeIn C2 [B + 2, B + 3, B + 4] = true := freeIn_all fun b hb => ⟨fr2 b (by simp at hb; omega) (by simp at hb; omega), by simp at hb; omega⟩
  (try simp (maxSteps := 1000000) (disch := first | omega | (simp only [Z3]; omega) | (simp; done) | assumption | decide | (refine not_not_intro ?_; assumption)) only [Z1, Z2, splice, z2a, z2b, Bool.and_self])
  refine flt_copy (α := Int) rfl (fr2 (B + 2) (by omega) (by omega)) (by omega) (by rfl) (by rfl) (h.ins.keep0 kk2) (by omega) (by omega) _ fun w3 M3 C3 km3 kc3 o3 v3 => ?_
  have kk3 : Keeps [] H C3 := kk2.trans kc3 (fun b hb hm => by simp at hm; omega)
  have lC3 : C2.next ≤ C3.next := kc3.next
  have nC3 : B + 5 ≤ C3.next := by omega
  have fr3 : ∀ b, B + 3 ≤ b → b < B + 5 → C3.get b = none := fun b hb hb2 => by
    rw [kc3.same b (by omega) (by simp; omega)]; exact fr2 b (by omega) hb2
  have fm3 : ∀ b, B + 3 ≤ b → b < B + 5 → M3.get b = none ∧ b < M3.next := fun b hb hb2 => by
    have := km3.next
    rw [km3.same b (by omega) (by simp; omega)]; exact ⟨fr2 b (by omega) hb2, by omega⟩
  have gp3 := kc3.get gp2 (by simp; omega)
  have gq3 := kc3.get gq2 (by simp; omega)
  have lt3 := o3.lt
  have o1 := o1.keep kc3 (fun b hb hm => by have := v1 b hb; have := lt1 b hb; simp at hm; omega)
  have o2 := o2.keep kc3 (fun b hb hm => by have := v2 b hb; have := lt2 b hb; simp at hm; omega)
  have z3a : freeIn M3 [B + 3, B + 4] = true := freeIn_all fun b hb => fm3 b (by simp at hb; omega) (by simp at hb; omega)
  have z3b : freeIn C3 [B + 3, B + 4] = true := freeIn_all fun b hb => ⟨fr3 b (by simp at hb; omega) (by simp at hb; omega), by simp at hb; omega⟩
  (try simp (maxSteps := 1000000) (disch := first | omega | (simp only [Z3]; omega) | (simp; done) | assumption | decide | (refine not_not_intro ?_; assumption)) only [Z1, Z2, splice, z3a, z3b, Bool.and_self])
  refine flt_copy (α := Int) rfl (fr3 (B + 3) (by omega) (by omega)) (by omega) (by rfl) (by rfl) (h.outs.keep0 kk3) (by omega) (by omega) _ fun w4 M4 C4 km4 kc4 o4 v4 => ?_
  have kk4 : Keeps [] H C4 := kk3.trans kc4 (fun b hb hm => by simp at hm; omega)
  have lC4 : C3.next ≤ C4.next := kc4.next
  have nC4 : B + 5 ≤ C4.next := by omega
  have fr4 : ∀ b, B + 4 ≤ b → b < B + 5 → C4.get b = none := fun b hb hb2 => by
    rw [kc4.same b (by omega) (by simp; omega)]; exact fr3 b (by omega) hb2
  have fm4 : ∀ b, B + 4 ≤ b → b < B + 5 → M4.get b = none ∧ b < M4.next := fun b hb hb2 => by
    have := km4.next
    rw [km4.same b (by omega) (by simp; omega)]; exact ⟨fr3 b (by omega) hb2, by omega⟩
  have gp4 := kc4.get gp3 (by simp; omega)
  have gq4 := kc4.get gq3 (by simp; omega)
  have lt4 := o4.lt
  have o1 := o1.keep kc4 (fun b hb hm => by have := v1 b hb; have := lt1 b hb; simp at hm; omega)
  have o2 := o2.keep kc4 (fun b hb hm => by have := v2 b hb; have := lt2 b hb; simp at hm; omega)
  have o3 := o3.keep kc4 (fun b hb hm => by have := v3 b hb; have := lt3 b hb; simp at hm; omega)
  have z4a : freeIn M4 [B + 4] = true := freeIn_all fun b hb => fm4 b (by simp at hb; omega) (by simp at hb; omega)
  have z4b : freeIn C4 [B + 4] = true := freeIn_all fun b hb => ⟨fr4 b (by simp at hb; omega) (by simp at hb; omega), by simp at hb; omega⟩
  (try simp (maxSteps := 1000000) (disch := first | omega | (simp only [Z3]; omega) | (simp; done) | assumption | decide | (refine not_not_intro ?_; assumption)) only [Z1, Z2, splice, z4a, z4b, Bool.and_self])
  refine flt_copy (α := Ins) rfl (fr4 (B + 4) (by omega) (by omega)) (by omega) (by rfl) (by rfl) (h.code.keep0 kk4) (by omega) (by omega) _ fun w5 M5 C5 km5 kc5 o5 v5 => ?_
  have kk5 : Keeps [] H C5 := kk4.trans kc5 (fun b hb hm => by simp at hm; omega)
  have lC5 : C4.next ≤ C5.next := kc5.next
  have nC5 : B + 5 ≤ C5.next := by omega
  have fr5 : ∀ b, B + 5 ≤ b → b < B + 5 → C5.get b = none := fun b hb hb2 => by
    rw [kc5.same b (by omega) (by simp; omega)]; exact fr4 b (by omega) hb2
  have fm5 : ∀ b, B + 5 ≤ b → b < B + 5 → M5.get b = none ∧ b < M5.next := fun b hb hb2 => by
    have := km5.next
    rw [km5.same b (by omega) (by simp; omega)]; exact ⟨fr4 b (by omega) hb2, by omega⟩
  have gp5 := kc5.get gp4 (by simp; omega)
  have gq5 := kc5.get gq4 (by simp; omega)
  have lt5 := o5.lt
  have o1 := o1.keep kc5 (fun b hb hm => by have := v1 b hb; have := lt1 b hb; simp at hm; omega)
  have o2 := o2.keep kc5 (fun b hb hm => by have := v2 b hb; have := lt2 b hb; simp at hm; omega)
  have o3 := o3.keep kc5 (fun b hb hm => by have := v3 b hb; have := lt3 b hb; simp at hm; omega)
  have o4 := o4.keep kc5 (fun b hb hm => by have := v4 b hb; have := lt4 b hb; simp at hm; omega)
  have i1 := o1.isOne
  have i2 := o2.isOne
  have i3 := o3.isOne
  have i4 := o4.isOne
  have i5 := o5.isOne
  have hfa : fillA [Value.string x.name, Value.slice none 0 0, Value.slice none 0 0, Value.slice none 0 0, Value.slice none 0 0, Value.slice none 0 0] [(1, 1, w1), (2, 1, w2), (3, 1, w3), (4, 1, w4), (5, 1, w5)] = some [Value.string x.name, w1, w2, w3, w4, w5] := by
    rw [fillA_one i1 (by simp), fillA_one i2 (by simp), fillA_one i3 (by simp), fillA_one i4 (by simp), fillA_one i5 (by simp)]
    rfl
  have hone : ([Value.string x.name, w1, w2, w3, w4, w5] : List V).all Value.isOne = true := by simp [i1, i2, i3, i4, i5]
  have hqB : q < B := by omega
  (try simp (maxSteps := 1000000) (disch := first | omega | (simp only [Z3]; omega) | (simp; done) | assumption | decide | (refine not_not_intro ?_; assumption)) only [Z1, Z2, splice, hfa, gq5, gp1, gp2, gp3, gp4, gp5, c1, c2, c3, c4, c5])
  have kq : Keeps [q] C5 (C5.set q (some (.cells true [Value.string x.name, w1, w2, w3, w4, w5]))) := Keeps.set (by simp)
  have hkq : Keeps [] H (C5.set q (some (.cells true [Value.string x.name, w1, w2, w3, w4, w5]))) := keeps_set kk5 (.inr (by omega))
  have a1 := o1.keep kq (fun b hb hm => by have := v1 b hb; simp at hm; omega)
  have a2 := o2.keep kq (fun b hb hm => by have := v2 b hb; simp at hm; omega)
  have a3 := o3.keep kq (fun b hb hm => by have := v3 b hb; simp at hm; omega)
  have a4 := o4.keep kq (fun b hb hm => by have := v4 b hb; simp at hm; omega)
  have a5 := o5.keep kq (fun b hb hm => by have := v5 b hb; simp at hm; omega)
  refine hQ _ ⟨x.name, ⟨w1, x.types.xs, i1⟩, ⟨w2, x.first.xs, i2⟩, ⟨w3, x.ins.xs, i3⟩, ⟨w4, x.outs.xs, i4⟩, ⟨w5, x.code.xs, i5⟩⟩ rfl ⟨hkq, fun t ht => ?_, fun t ht => ?_, ?_⟩
  · simp only [List.mem_cons, List.not_mem_nil, or_false] at ht
    rcases ht with rfl | rfl | rfl | rfl | rfl
    · intro b hb; have := v1 b hb; omega
    · intro b hb; have := v2 b hb; omega
    · intro b hb; have := v3 b hb; omega
    · intro b hb; have := v4 b hb; omega
    · intro b hb; have := v5 b hb; omega
  · simp only [List.mem_cons, List.not_mem_nil, or_false] at ht
    rcases ht with rfl | rfl | rfl | rfl | rfl
    · exact a1
    · exact a2
    · exact a3
    · exact a4
    · exact a5
  · have e : ∀ {α : Type} [Flat α] (v : V) (xs : List α), (own v xs).fp = vb v := fun _ _ => rfl
    simp only [List.pairwise_cons, List.mem_cons, List.not_mem_nil, or_false, forall_eq_or_imp, forall_eq, e]
    have L1 := lt1
    have L2 := lt2
    have L3 := lt3
    have L4 := lt4
    refine ⟨⟨fun b h1 h2 => ?_, fun b h1 h2 => ?_, fun b h1 h2 => ?_, fun b h1 h2 => ?_⟩, ⟨fun b h1 h2 => ?_, fun b h1 h2 => ?_, fun b h1 h2 => ?_⟩, ⟨fun b h1 h2 => ?_, fun b h1 h2 => ?_⟩, fun b h1 h2 => ?_, by simp, List.Pairwise.nil⟩
    · have := v1 b h1; have := v2 b h2; have := L1 b h1; omega
    · have := v1 b h1; have := v3 b h2; have := L1 b h1; omega
    · have := v1 b h1; have := v4 b h2; have := L1 b h1; omega
    · have := v1 b h1; have := v5 b h2; have := L1 b h1; omega
    · have := v2 b h1; have := v3 b h2; have := L2 b h1; omega
    · have := v2 b h1; have := v4 b h2; have := L2 b h1; omega
    · have := v2 b h1; have := v5 b h2; have := L2 b h1; omega
    · have := v3 b h1; have := v4 b h2; have := L3 b h1; omega
    · have := v3 b h1; have := v5 b h2; have := L3 b h1; omega
    · have := v4 b h1; have := v5 b h2; have := L4 b h1; omega
end Go.AM.Cap
