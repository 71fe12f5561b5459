import Derived.Test.YtbnjeldcndpdoaaPnForK
import Derived.Test.YtbnjeldcndpdoaaPnX
set_option linter.all false
/- points: Forced, by the kit's contracts -/
set_option maxHeartbeats 4000000
set_option maxRecDepth 100000
namespace Go.AM.Cap
open Go.AM Go.Proofs Go.RowKit Go.Maps
section
variable {N : Nat} {w₀ w w' : World} {ρ : Ren} {H : Heap}
theorem lrel_ints : ∀ l : List Int, LRel ρ (l.map i64) (l.map i64)
  | [] => .nil
  | n :: l => .cons (.int .i64 n) (lrel_ints l)
/-- a block that a library's function has made -/
theorem rel_row (h : Rel N w₀ ρ H w) (hb : Below w.heap.size w w') {g : Nat} {cur : Array V} {e : TypeId} {l : List Int} (hg : w.heap.size ≤ g) (hc : w'.heap[g]? = some (.cells cur e (0, 0))) (hl : l.length ≤ cur.size) (ht : cur.toList.take l.length = l.map i64) :
    Rel N w₀ (ρ.add H.next ⟨g, 0, cur.size⟩) (H.push (some (.cells true (l.map i64)))) w' ∧ Ext ρ H w (ρ.add H.next ⟨g, 0, cur.size⟩) (H.push (some (.cells true (l.map i64)))) w' := by
  have h' := rel_below h hb
  have hno : ρ H.next = none := h.dom _ (Nat.le_refl _)
  have hle := Ren.le_add ⟨g, 0, cur.size⟩ hno
  have hold2 : ∀ b x, (H.push (some (.cells true (l.map i64)))).get b = some x → (b = H.next ∧ x = .cells true (l.map i64)) ∨ (H.get b = some x ∧ b ≠ H.next) := fun b x hx => by
    rw [Heap.get_push] at hx
    split at hx
    · rename_i e; cases hx; exact .inl ⟨e, rfl⟩
    · exact .inr ⟨hx, by assumption⟩
  have hself : (ρ.add H.next ⟨g, 0, cur.size⟩) H.next = some ⟨g, 0, cur.size⟩ := by unfold Ren.add; rw [if_pos rfl]
  have hbig := h.big
  refine ⟨⟨h'.below, h'.big, fun b hb => ?_, fun b hb => by obtain ⟨s, hs⟩ := h.base b hb; exact ⟨s, hle _ _ hs⟩, fun b x hx => ?_, fun b b' x x' L L' hx hx' hne hL hL' => ?_⟩, ?_⟩
  · rw [Heap.next_push] at hb
    unfold Ren.add; rw [if_neg (by omega)]; exact h.dom b (by omega)
  · rcases hold2 b x hx with ⟨rfl, rfl⟩ | ⟨h1, h2⟩
    · refine ⟨_, hself, cur, e, (0, 0), hc, rfl, ⟨fun _ => ⟨by show N ≤ g; omega, fun i _ => by show ¬ (0 ≤ i ∧ i < 0); omega⟩, fun q => by cases q⟩, by rw [List.length_map]; show 0 + l.length ≤ cur.size; omega, ?_⟩
      rw [List.drop_zero, List.length_map, ht]
      exact lrel_ints l
    · obtain ⟨L, hL, hr⟩ := h'.blk b x h1
      exact ⟨L, hle _ _ hL, hr.mono hle rfl⟩
  · have key : ∀ {b x L}, H.get b = some x → b ≠ H.next → (ρ.add H.next ⟨g, 0, cur.size⟩) b = some L → ρ b = some L ∧ L.blk < w.heap.size := fun {b x L} hx hn hL => by
      unfold Ren.add at hL
      rw [if_neg hn] at hL
      exact ⟨hL, h.lt hx hL⟩
    rcases hold2 b x hx with ⟨rfl, rfl⟩ | ⟨h1, h2⟩
    · rw [hself] at hL; cases hL
      rcases hold2 b' x' hx' with ⟨rfl, rfl⟩ | ⟨h1', h2'⟩
      · exact absurd rfl hne
      · have := (key h1' h2' hL').2
        show g ≠ L'.blk
        omega
    · obtain ⟨hL1, hL2⟩ := key h1 h2 hL
      rcases hold2 b' x' hx' with ⟨rfl, rfl⟩ | ⟨h1', h2'⟩
      · rw [hself] at hL'; cases hL'
        show L.blk ≠ g
        omega
      · exact h.inj b b' x x' L L' h1 h1' hne hL1 (key h1' h2' hL').1
  · have hx := ext_below (ρ := ρ) (H := H) hb
    refine ⟨hle, fun b hb => by unfold Ren.add; rw [if_neg (by omega)], by rw [Heap.next_push]; omega, ⟨hb.size, fun c hc _ => hb.block c hc⟩, fun b x L hb' hL => ?_⟩
    rcases hold2 b x hb' with ⟨rfl, rfl⟩ | ⟨h1, h2⟩
    · rw [hself] at hL; cases hL
      exact .inl hg
    · unfold Ren.add at hL
      rw [if_neg h2] at hL
      exact .inr ⟨b, x, L, h1, hL, rfl⟩
end
/-- a map's keys that are ints -/
def keysI (es : List (V × V)) : List Int := es.map fun e => match e.1 with
  | .int _ n => n
  | _ => 0
def okF (es : List (V × V)) : Prop := es.map (·.1) = (keysI es).map i64 ∧ (keysI es).Nodup ∧ (∀ n ∈ keysI es, 0 ≤ n ∧ n ≤ 1000000) ∧ es.length ≤ 1000
def rowF : List Int → M V
  | [] => fun H => some (.slice none 0 0, H)
  | n :: l => fun H => some (slc H.next 0 1 (n :: l).length (n :: l).length, H.push (some (.cells true ((n :: l).map i64))))
open Classical in
/-- Forced: the keys of the map of the points that are forced, in order -/
noncomputable def forcedF (args : List V) : M V := fun H => match args with
  | [.pointer (some ⟨p, o, none⟩)] => match H.cell p (o + 3) with
    | some (.map (some m)) => match H.get m with
      | some (.map true es) => if okF es then rowF ((keysI es).mergeSort fun x y => decide (x ≤ y)) H else none
      | _ => none
    | _ => none
  | _ => none
theorem keysI_enc (l : List (Int × Int)) : keysI (l.map encE) = l.map (·.1) := by
  unfold keysI
  rw [List.map_map]
  rfl
theorem keysI_raw (l : List (Int × Int)) : (l.map encE).map (·.1) = (l.map (·.1)).map i64 := by
  rw [List.map_map, List.map_map]
  rfl
theorem forced_ok {H : Heap} {x : BL} {B : Bk} (h : BankR H x B) (hr : ∀ e ∈ B.fo, 0 ≤ e.1 ∧ e.1 < B.ls.length) (Q : V → Heap → Prop)
    (hQ : ∀ v H', Own H' v (((B.fo.map (·.1)).mergeSort fun x y => decide (x ≤ y)).map i64) → Keeps [] H H' → Q v H') : wp (forcedF [ptr x.p 0]) Q H := by
  have h1 := h.obj
  have h2 := h.fo
  have hsm := h.small
  have hc : H.cell x.p (0 + 3) = some (.map (some x.fm)) := by
    unfold Heap.cell; rw [h1]; rfl
  have hlen : B.fo.length ≤ 1000 := by
    have hs : (B.fo.map (·.1)).length ≤ ((List.range B.ls.length).map fun i : Nat => (i : Int)).length := List.Nodup.length_le_of_subset h.kf fun p hp => by
      obtain ⟨e, he, rfl⟩ := List.mem_map.1 hp
      have := hr e he
      exact List.mem_map.2 ⟨e.1.toNat, List.mem_range.2 (by omega), by omega⟩
    rw [List.length_map, List.length_map, List.length_range] at hs
    omega
  have hok : okF (B.fo.map encE) := by
    refine ⟨by rw [keysI_enc]; exact keysI_raw _, by rw [keysI_enc]; exact h.kf, fun n hn => ?_, by rw [List.length_map]; exact hlen⟩
    rw [keysI_enc] at hn
    obtain ⟨e, he, rfl⟩ := List.mem_map.1 hn
    have := hr e he
    omega
  have key : forcedF [ptr x.p 0] H = rowF ((B.fo.map (·.1)).mergeSort fun x y => decide (x ≤ y)) H := by
    unfold forcedF
    simp only [hc, h2, if_pos hok, keysI_enc]
  generalize (B.fo.map (·.1)).mergeSort (fun x y => decide (x ≤ y)) = l at *
  cases l with
  | nil => exact ⟨_, _, key, hQ _ _ (Own.nil _) (Keeps.refl _ _)⟩
  | cons n l => exact ⟨_, _, key, hQ _ _ (.inr ⟨H.next, by rw [List.length_map], Heap.get_push_self _ _⟩) (Keeps.push _ _ _)⟩
theorem lrel_back {ρ : Ren} : ∀ {l : List Int} {l' : List V}, LRel ρ (l.map i64) l' → l' = l.map i64
  | [], _, h => by cases h; rfl
  | n :: l, _, h => by
    cases h with
    | cons h1 h2 => rw [lrel_back h2]; cases h1; rfl
theorem known_forced : Known Try.prog 21 forcedF := by
  refine ⟨by kernel_rfl, ?_⟩
  intro N w₀ ρ H w args args' r H' hG hR ha hl
  unfold forcedF at hl
  split at hl
  · rename_i p o
    split at hl
    · rename_i m hc
      split at hl
      · rename_i es hm
        split at hl
        · rename_i hok
          obtain ⟨ok1, ok2, ok3, ok4⟩ := hok
          obtain ⟨L, hL, rfl⟩ : ∃ L, ρ p = some L ∧ args' = [.pointer (some ⟨L.blk, L.off + o, none⟩)] := by
            cases ha with
            | cons h1 h2 =>
              cases h2
              obtain ⟨L, hL, rfl⟩ := VRel.ptr_inv (b := p) (o := o) h1
              exact ⟨L, hL, rfl⟩
          obtain ⟨r', hcell, hv⟩ := hR.cell hc hL
          obtain ⟨Lm, hLm, rfl⟩ : ∃ Lm, ρ m = some Lm ∧ r' = .map (some Lm.blk) := by cases hv; exact ⟨_, by assumption, rfl⟩
          obtain ⟨L2, hL2, hB⟩ := hR.blk m _ hm
          rw [hLm] at hL2
          cases hL2
          obtain ⟨_, E, clk, hE, hrw, hk, _⟩ := hB
          obtain ⟨_, hborn⟩ := hrw rfl
          rw [ok1] at hk
          have hkeys := lrel_back hk
          have hEl : E.size = (keysI es).length := by
            have := congrArg List.length hkeys
            simpa using this
          have hkl : (keysI es).length ≤ 1000 := by unfold keysI; rw [List.length_map]; exact ok4
          have hkey : ∀ e ∈ E.toList, ∃ n ∈ keysI es, e.key = i64 n := fun e he => by
            have : e.key ∈ E.toList.map (·.key) := List.mem_map_of_mem he
            rw [hkeys] at this
            obtain ⟨n, hn, q⟩ := List.mem_map.1 this
            exact ⟨n, hn, q.symm⟩
          have hld : w.cell? ⟨L.blk, (L.off + o) + 3, none⟩ = some (.map (some Lm.blk)) := by
            rw [Nat.add_assoc]; exact hcell
          have hko : ∀ n ∈ keysI es, keyOf Try.prog 3 (i64 n) = some (.int .i64 n) := fun n hn => by
            have := ok3 n hn
            have hu : Try.prog.underlying 3 = some (.int .i64) := by kernel_rfl
            have hw : (Lit.int .i64 n).wf = true := by
              simp [Lit.wf, IntKind.min, IntKind.max, IntKind.signed, IntKind.bits]; omega
            simp [keyOf, hu, mapKey, hw]
          have hrd : ∀ e ∈ E.toList, ∃ n ∈ keysI es, e.key = i64 n ∧ Go.WideElems.rd (H := Unit) Try.prog 3 (fun _ => some (.nil, [])) e = some (.int .i64 n, .nil) := fun e he => by
            obtain ⟨n, hn, q⟩ := hkey e he
            refine ⟨n, hn, q, ?_⟩
            unfold Go.WideElems.rd
            rw [q, hko n hn]
            rfl
          let R0 : Value → Option (DataW Unit × List MemPlace) := fun _ => some (.nil, [])
          have hst : Go.MapKept.Stamped E clk := ⟨hborn.2, List.pairwise_map.2 (hborn.1.imp fun h => by omega), by
            rw [hkeys]
            exact List.pairwise_map.2 (ok2.imp fun h q => h (by cases q; rfl))⟩
          have hown : w.ownsMap Try.prog 3 R0 Lm.blk E.size (.map ((E.toList.map (Go.WideElems.rg Try.prog 3 R0)).foldr DataW.insert [])) :=
            ⟨E, clk, hE, ⟨by rw [hEl]; exact Nat.le_trans hkl (by decide), hst, fun x hx => by obtain ⟨n, _, _, q⟩ := hrd x hx; exact ⟨_, q⟩⟩, Nat.le_refl _, rfl⟩
          have hperm : (intKeys (.map ((E.toList.map (Go.WideElems.rg Try.prog 3 R0)).foldr DataW.insert []))).Perm (keysI es) := by
            have p1 := (Go.WideShapes.sorted_perm (E.toList.map (Go.WideElems.rg Try.prog 3 R0))).map (fun p => intOf p.1)
            have e1 : (E.toList.map (Go.WideElems.rg Try.prog 3 R0)).map (fun p => intOf p.1) = keysI es := by
              have e2 : (E.toList.map (Go.WideElems.rg Try.prog 3 R0)).map (fun p => intOf p.1) = (E.toList.map (·.key)).map (fun v => match v with | .int _ n => n | _ => 0) := by
                rw [List.map_map, List.map_map]
                refine List.map_congr_left fun e he => ?_
                obtain ⟨n, _, q1, q2⟩ := hrd e he
                show intOf (Go.WideElems.rg Try.prog 3 R0 e).1 = _
                unfold Go.WideElems.rg
                rw [q2]
                show n = match e.key with | .int _ n => n | _ => 0
                rw [q1]
              rw [e2, hkeys, List.map_map]
              conv => rhs; rw [← List.map_id (keysI es)]
              rfl
            rw [e1] at p1
            exact p1
          have hsz : Maps.size (DataW.map ((E.toList.map (Go.WideElems.rg Try.prog 3 R0)).foldr DataW.insert [])) ≤ 1000 := by
            show ((E.toList.map (Go.WideElems.rg Try.prog 3 R0)).foldr DataW.insert []).length ≤ 1000
            rw [length_sorted, List.length_map, Array.length_toList, hEl]; exact hkl
          refine (Try.forced L.blk (L.off + o) Lm.blk E.size _ R0 w hld hown (Nat.le_trans hsz (by decide)) (by omega)).mono fun e w' ⟨v, ss, he, hp, hrow, hnil, hb⟩ => ?_
          have hsort : (ss.mergeSort fun x y => decide (x ≤ y)) = (keysI es).mergeSort fun x y => decide (x ≤ y) := mergeSort_of_perm_i (hp.trans hperm)
          have hlen : ((keysI es).mergeSort fun x y => decide (x ≤ y)).length = ss.length := by rw [← hsort, List.length_mergeSort]
          rw [hsort] at hrow
          generalize (keysI es).mergeSort (fun x y => decide (x ≤ y)) = l at *
          cases l with
          | nil =>
            have hss : ss = [] := List.eq_nil_of_length_eq_zero hlen.symm
            rw [hnil.2 hss] at he
            cases hl
            exact ⟨_, he, ρ, .snil, rel_below hR hb, ext_below hb⟩
          | cons n l =>
            cases hl
            rcases hrow with ⟨hq, ⟨rfl, h0⟩ | ⟨g, cap, cur, rfl, hg, hgc, hcap, hcm, hcs, htk⟩⟩
            · rw [h0] at hlen; cases hlen
            · rw [Nat.mul_one] at hcs htk
              have htk' : cur.toList.take (n :: l).length = (n :: l).map i64 := by rw [hlen]; exact htk
              obtain ⟨r1, r2⟩ := rel_row hR hb hg hgc (by rw [hlen]; omega) htk'
              refine ⟨_, he, _, ?_, r1, r2⟩
              rw [← hlen]
              exact .slc H.next 0 1 (n :: l).length (n :: l).length ⟨g, 0, cur.size⟩ 0 cap ⟨g, 0, none⟩ (by unfold Ren.add; rw [if_pos rfl]) (.inl rfl) (Nat.le_refl _) (by rw [hlen]; exact hcap) (.inr (by show 0 + cap * 1 ≤ cur.size; omega)) (.inl rfl) (.inr (Nat.le_trans hcm (by decide)))
        · cases hl
      · cases hl
    · cases hl
  · cases hl
end Go.AM.Cap
