import Derived.Test.YtbnjeldcndpdoaaAmMaps
import Derived.Test.YtbnjeldcndpdoaaAmSlc
import Derived.Test.YtbnjeldcndpdoaaAmBase
import Derived.Maps.RangeRun
set_option linter.all false
/- Slices that are copied; makes that float. -/
namespace Go.AM

/-- append(an empty own slice, x...) -/
theorem app_empty {α : Type} [Flat α] {H : Heap} {b n bytes : Nat} {xv : V} {xs : List α} {Q : V → Heap → Prop} (hs : Flat.size α = n) (hb : H.get b = some (.cells true [])) (hx : Sl H xv xs) (hn : xs.length * n ≤ 1000000) (hl : xs.length ≤ 1000000) (hby : bytes ≤ 1000) (hQ : ∀ w H', (w = slc b 0 n 0 0 ∧ xs = [] ∧ H' = H ∨ w = slc H.next 0 n xs.length xs.length ∧ H'.get H.next = some (.cells true (encs xs)) ∧ Keeps [b] H H' ∧ xs ≠ [] ∧ H'.next = H.next + 1) → Q w H') : wp (appV n bytes (slc b 0 n 0 0) xv) Q H := by
  subst hs
  by_cases h0 : xs = []
  · subst h0
    refine ⟨slc b 0 (Flat.size α) 0 0, H, ?_, hQ _ _ (.inl ⟨rfl, rfl, rfl⟩)⟩
    rcases hx with ⟨rfl, _⟩ | ⟨bb, o, u, c, rfl, _⟩ <;> rfl
  · have hne : xs.length ≠ 0 := fun h => h0 (List.eq_nil_of_length_eq_zero h)
    have hc : cellsOfSlice H (Flat.size α) xv = some (encs xs) := by
      rcases hx with ⟨rfl, e⟩ | ⟨bb, o, u, c, rfl, hc, _, hl2, _⟩
      · exact absurd e h0
      · rcases hl2 with e | ⟨rw, cs, hg, q1, q2⟩
        · exact absurd e h0
        · simp only [cellsOfSlice, hne, if_false, cellsAt, hg]
          rw [if_pos q1, q2]
    have hf : ∃ a c, xv = .slice a xs.length c := by
      rcases hx with ⟨rfl, e⟩ | ⟨bb, o, u, c, rfl, _⟩
      · exact absurd e h0
      · exact ⟨_, _, rfl⟩
    obtain ⟨a, c, rfl⟩ := hf
    have hlt := Heap.get_lt hb
    have hone := encs_one xs
    have hel := encs_length xs
    have hcs0 : cellsOfSlice H (Flat.size α) (slc b 0 (Flat.size α) 0 0) = some [] := rfl
    have hm : xs.length * bytes ≤ 1000000 * 1000 := Nat.mul_le_mul hl hby
    refine ⟨slc H.next 0 (Flat.size α) xs.length xs.length, (H.set b none).push (some (.cells true (encs xs))), ?_, hQ _ _ (.inr ⟨rfl, ?_, ?_, h0, by simp⟩)⟩
    · simp only [appV, hc, appTo, hne, if_false, hcs0, giveUp, hb, if_true]
      rw [if_pos ⟨by rw [Nat.zero_add]; omega, by omega, hone, hel⟩]
      simp
    · have := Heap.get_push_self (H.set b none) (some (.cells true (encs xs)))
      simpa using this
    · exact ⟨by simp, fun c hc hn => by rw [Heap.get_push_lt (by simpa using hc), Heap.get_set_ne _ _ _ (by simpa using hn)]⟩


theorem wp_flt_mkmap {id : Nat} {H : Heap} {Q : V → Heap → Prop} (h : H.get id = none) (hl : id < H.next) (hQ : Q (.map (some id)) (H.set id (some (.map true [])))) : wp (flt id mkmap) Q H := by
  have e : mkmap Heap.none0 = some (.map (some 0), Heap.one (.map true [])) := rfl
  have : Nat.blt id H.next = true := by simpa [Nat.blt_eq] using hl
  exact ⟨_, _, by simp only [flt, e, Heap.one?_one, h, this, cond_true, reloc], hQ⟩
theorem resv_keeps (n : Nat) (H : Heap) : Keeps [] H (resv H n) := ⟨by rw [(resv_spec n H).2]; omega, fun b _ _ => (resv_spec n H).1 b⟩
theorem resv_free {n : Nat} {H : Heap} {b : Nat} (h : H.next ≤ b) : (resv H n).get b = none := by
  rw [(resv_spec n H).1]
  cases hg : H.get b with
  | none => rfl
  | some x => have := Heap.get_lt hg; omega
theorem resv_next (n : Nat) (H : Heap) : (resv H n).next = H.next + n := (resv_spec n H).2
theorem freeIn_all {H : Heap} : ∀ {l : List Nat}, (∀ b ∈ l, H.get b = none ∧ b < H.next) → freeIn H l = true
  | [], _ => rfl
  | b :: l, h => by
    rw [freeIn_cons (h b (by simp)).1 (h b (by simp)).2]
    exact freeIn_all fun c hc => h c (by simp [hc])
end Go.AM

/- Own slices of flat things. -/
namespace Go.AM
section
variable {α : Type} [Flat α]
/-- a slice of one's own whose elements are xs, at its block's start, with no room -/
def OwnF (H : Heap) (v : V) (xs : List α) : Prop := (v = .slice none 0 0 ∧ xs = []) ∨ ∃ b, v = slc b 0 (Flat.size α) xs.length xs.length ∧ H.get b = some (.cells true (encs xs))
theorem OwnF.nil (H : Heap) : OwnF H (.slice none 0 0) ([] : List α) := .inl ⟨rfl, rfl⟩
theorem OwnF.keep {S : List Nat} {H H' : Heap} {v : V} {l : List α} (h : OwnF H v l) (hk : Keeps S H H') (hn : ∀ b ∈ vb v, b ∉ S) : OwnF H' v l := by
  rcases h with h | ⟨b, rfl, hb⟩
  · exact .inl h
  · exact .inr ⟨b, rfl, hk.get hb (hn b (by simp))⟩
theorem OwnF.keep0 {H H' : Heap} {v : V} {l : List α} (h : OwnF H v l) (hk : Keeps [] H H') : OwnF H' v l := h.keep hk (by simp)
theorem OwnF.len {H : Heap} {v : V} {l : List α} (h : OwnF H v l) : lenSlc v = some (i64 l.length) := by
  rcases h with ⟨rfl, rfl⟩ | ⟨b, rfl, _⟩ <;> rfl
theorem OwnF.lt {H : Heap} {v : V} {l : List α} (h : OwnF H v l) : ∀ b ∈ vb v, b < H.next := by
  rcases h with ⟨rfl, rfl⟩ | ⟨b, rfl, hb⟩
  · simp
  · simpa using Heap.get_lt hb
theorem OwnF.isOne {H : Heap} {v : V} {l : List α} (h : OwnF H v l) : v.isOne = true := by
  rcases h with ⟨rfl, rfl⟩ | ⟨b, rfl, _⟩ <;> rfl
theorem OwnF.sl {H : Heap} {v : V} {l : List α} (h : OwnF H v l) : Sl H v l := by
  rcases h with ⟨rfl, rfl⟩ | ⟨b, rfl, hb⟩
  · exact Sl.nil H
  · refine .inr ⟨b, 0, Flat.size α, l.length, rfl, Nat.le_refl _, Heap.get_lt hb, .inr ⟨true, encs l, hb, by rw [encs_length]; omega, ?_⟩, .inr rfl⟩
    rw [List.drop_zero, List.take_of_length_le (by rw [encs_length]; exact Nat.le_refl _)]
theorem ownF_push {H : Heap} {xs : List α} {n m : Nat} (hs : Flat.size α = n) (hm : xs.length = m) : OwnF (H.push (some (.cells true (encs xs)))) (slc H.next 0 n m m) xs := by
  subst hs hm; exact .inr ⟨_, rfl, Heap.get_push_self _ _⟩

theorem ownF_appTo {v : V} {xs ys : List α} {n m bytes : Nat} {new : Option (List V)} {H : Heap} {Q : V → Heap → Prop} (hs : Flat.size α = n) (hv : OwnF H v xs) (hm : ys.length = m) (hnew : ys ≠ [] → new = some (encs ys)) (hb : (xs.length + m) * bytes ≤ 35184372088832) (hb2 : xs.length + m ≤ 35184372088832)
    (hQ : ∀ w H', OwnF H' w (xs ++ ys) → Keeps (vb v) H H' → (∀ b ∈ vb w, b ∈ vb v ∨ H.next ≤ b) → Q w H') : wp (appTo n bytes v m new) Q H := by
  subst hs hm
  by_cases h0 : ys = []
  · subst h0
    have hf : ∃ x len cap, v = .slice x len cap := by
      rcases hv with ⟨rfl, _⟩ | ⟨b, rfl, _⟩
      · exact ⟨_, _, _, rfl⟩
      · exact ⟨_, _, _, rfl⟩
    obtain ⟨x, len, cap, rfl⟩ := hf
    exact ⟨_, H, rfl, hQ _ _ (by rw [List.append_nil]; exact hv) (Keeps.refl _ _) (fun b hb => .inl hb)⟩
  have hne : ys.length ≠ 0 := fun h => h0 (List.eq_nil_of_length_eq_zero h)
  rw [hnew h0]
  have hone := encs_one ys
  have hel := encs_length ys
  rcases hv with ⟨rfl, rfl⟩ | ⟨b, rfl, hg⟩
  · have e1 : cellsOfSlice H (Flat.size α) (.slice none 0 0) = some [] := rfl
    have e2 : giveUp H (Flat.size α) (.slice none 0 0) = some H := rfl
    refine ⟨slc H.next 0 (Flat.size α) ys.length ys.length, H.push (some (.cells true (encs ys))), ?_, hQ _ _ ?_ (Keeps.push _ _ _) (fun b hb => .inr (by simp at hb; omega))⟩
    · simp only [List.length_nil, Nat.zero_add] at hb hb2
      simp only [appTo, hne, if_false, e1, e2]
      rw [if_pos ⟨by rw [Nat.zero_add]; exact hb, by omega, hone, hel⟩]
      simp
    · exact ownF_push rfl (by simp)
  · have hcs : cellsOfSlice H (Flat.size α) (slc b 0 (Flat.size α) xs.length xs.length) = some (encs xs) := by
      simp only [cellsOfSlice]
      split
      · rename_i h1; rw [List.eq_nil_of_length_eq_zero h1]; rfl
      · have e : (encs xs).length = xs.length * Flat.size α := encs_length xs
        simp only [cellsAt, hg, Nat.zero_add, List.drop_zero]
        rw [if_pos (by omega), List.take_of_length_le (by omega)]
    refine ⟨slc H.next 0 (Flat.size α) (xs.length + ys.length) (xs.length + ys.length), (H.set b none).push (some (.cells true (encs xs ++ encs ys))), ?_, hQ _ _ ?_ ?_ (fun c hc => .inr (by simp at hc; omega))⟩
    · simp only [appTo, hne, if_false, hcs, giveUp, hg, if_true]
      rw [if_pos ⟨hb, hb2, hone, hel⟩]
      simp
    · rw [← encs_append]
      have := ownF_push (H := H.set b none) (xs := xs ++ ys) (n := Flat.size α) (m := xs.length + ys.length) rfl (by simp)
      simpa using this
    · exact ⟨by simp, fun c hc hn => by rw [Heap.get_push_lt (by simpa using hc), Heap.get_set_ne _ _ _ (by simpa using hn)]⟩
theorem sl_cells {H : Heap} {v : V} {xs : List α} {n : Nat} (hs : Flat.size α = n) (h : Sl H v xs) (hne : xs ≠ []) : ∃ a c, v = .slice a xs.length c ∧ cellsOfSlice H n v = some (encs xs) := by
  subst hs
  rcases h with ⟨rfl, e⟩ | ⟨bb, o, u, c, rfl, hc, _, hl2, _⟩
  · exact absurd e hne
  · rcases hl2 with e | ⟨rw, cs, hg, q1, q2⟩
    · exact absurd e hne
    · refine ⟨_, _, rfl, ?_⟩
      have hn : xs.length ≠ 0 := fun h => hne (List.eq_nil_of_length_eq_zero h)
      simp only [cellsOfSlice, hn, if_false, cellsAt, hg]
      rw [if_pos q1, q2]
theorem ownF_appV {v x : V} {xs ys : List α} {n bytes : Nat} {H : Heap} {Q : V → Heap → Prop} (hs : Flat.size α = n) (hv : OwnF H v xs) (hx : Sl H x ys) (hb : (xs.length + ys.length) * bytes ≤ 35184372088832) (hb2 : xs.length + ys.length ≤ 35184372088832)
    (hQ : ∀ w H', OwnF H' w (xs ++ ys) → Keeps (vb v) H H' → (∀ b ∈ vb w, b ∈ vb v ∨ H.next ≤ b) → Q w H') : wp (appV n bytes v x) Q H := by
  by_cases h0 : ys = []
  · subst h0
    have hf : ∃ a c, x = .slice a 0 c := by
      rcases hx with ⟨rfl, _⟩ | ⟨bb, o, u, c, rfl, _⟩
      · exact ⟨_, _, rfl⟩
      · exact ⟨_, _, rfl⟩
    obtain ⟨a, c, rfl⟩ := hf
    exact ownF_appTo (ys := ([] : List α)) hs hv rfl (fun h => absurd rfl h) hb hb2 hQ
  · obtain ⟨a, c, rfl, hc⟩ := sl_cells hs hx h0
    exact ownF_appTo hs hv rfl (fun _ => hc) hb hb2 hQ
/-- append(v, x, y, ..) -/
theorem ownF_apps {v : V} {xs ys : List α} {n m bytes : Nat} {zero : List V} {parts : List (Nat × Nat × V)} {H : Heap} {Q : V → Heap → Prop} (hs : Flat.size α = n) (hv : OwnF H v xs) (hz : zero.all flatV = true) (hf : fillA zero parts = some (encs ys)) (hm : ys.length = m) (hb : (xs.length + m) * bytes ≤ 35184372088832) (hb2 : xs.length + m ≤ 35184372088832)
    (hQ : ∀ w H', OwnF H' w (xs ++ ys) → Keeps (vb v) H H' → (∀ b ∈ vb w, b ∈ vb v ∨ H.next ≤ b) → Q w H') : wp (bslc n m zero parts) (fun x H1 => wp (appV n bytes v x) Q H1) H := by
  subst hm
  refine (wp_bslc hz hf).mpr ?_
  have hk := Keeps.push [] H (some (.cells true (encs ys)))
  refine ownF_appV hs (hv.keep0 hk) (ownF_push hs rfl).sl hb hb2 fun w H' h1 h2 h3 => hQ w H' h1 ?_ fun b hb => (h3 b hb).imp id fun q => by simp at q; omega
  exact ⟨by have := h2.next; simp at this; omega, fun c hc hn => by rw [h2.same c (by simp; omega) hn, Heap.get_push_lt hc]⟩
end

end Go.AM

/- The rules that a walk always has, as two lemmas. -/
namespace Go.AM
theorem Z1 : type_of% (And.intro (And.intro (And.intro (And.intro (And.intro (And.intro @at_zero @at_succ) (And.intro @wp_bnd @wp_lift)) (And.intro (And.intro @wpO_some @wp_ret) (And.intro @nx_nxt @nx_brk))) (And.intro (And.intro (And.intro @nx_ret @unblk_nxt) (And.intro @unblk_ret @unblk_brk)) (And.intro (And.intro @finM_nxt @finM_ret) (And.intro @outV_one (And.intro @condM_t @condM_f))))) (And.intro (And.intro (And.intro (And.intro @condM_dt @condM_df) (And.intro @gd_t @gd_f)) (And.intro (And.intro @gdf_t @gdf_f) (And.intro @gd_skip @gd_dt))) (And.intro (And.intro (And.intro @gd_df @gdf_dt) (And.intro @gdf_df @pick_t)) (And.intro (And.intro @pick_f @pick_dt) (And.intro @pick_df (And.intro @not_t @not_f)))))) (And.intro (And.intro (And.intro (And.intro (And.intro @not_dec @isNil_ptr) (And.intro @isNil_ptr' @isNil_pnil)) (And.intro (And.intro @isNil_pnil' @nilck_ptr) (And.intro @faddr_ptr @Nat.zero_add))) (And.intro (And.intro (And.intro @Nat.add_zero @wp_ld1) (And.intro @lenStr_str @lenSlc_slice)) (And.intro (And.intro @strV_str @i64_add) (And.intro @i64_sub (And.intro @i64_mul @i64_in))))) (And.intro (And.intro (And.intro (And.intro @int_eqd @int_ned) (And.intro @int_lss @int_leq)) (And.intro (And.intro @int_gtr @int_geq) (And.intro @str_eqd (And.intro @str_ned @if_true.{1})))) (And.intro (And.intro (And.intro @wp_bndH @wp_withH) (And.intro @wp_need @enc_int)) (And.intro (And.intro @enc_str @enc_byte) (And.intro @enc_bool (And.intro @List.getElem?_cons_zero.{0} @List.getElem?_cons_succ.{0}))))))) := (And.intro (And.intro (And.intro (And.intro (And.intro (And.intro @at_zero @at_succ) (And.intro @wp_bnd @wp_lift)) (And.intro (And.intro @wpO_some @wp_ret) (And.intro @nx_nxt @nx_brk))) (And.intro (And.intro (And.intro @nx_ret @unblk_nxt) (And.intro @unblk_ret @unblk_brk)) (And.intro (And.intro @finM_nxt @finM_ret) (And.intro @outV_one (And.intro @condM_t @condM_f))))) (And.intro (And.intro (And.intro (And.intro @condM_dt @condM_df) (And.intro @gd_t @gd_f)) (And.intro (And.intro @gdf_t @gdf_f) (And.intro @gd_skip @gd_dt))) (And.intro (And.intro (And.intro @gd_df @gdf_dt) (And.intro @gdf_df @pick_t)) (And.intro (And.intro @pick_f @pick_dt) (And.intro @pick_df (And.intro @not_t @not_f)))))) (And.intro (And.intro (And.intro (And.intro (And.intro @not_dec @isNil_ptr) (And.intro @isNil_ptr' @isNil_pnil)) (And.intro (And.intro @isNil_pnil' @nilck_ptr) (And.intro @faddr_ptr @Nat.zero_add))) (And.intro (And.intro (And.intro @Nat.add_zero @wp_ld1) (And.intro @lenStr_str @lenSlc_slice)) (And.intro (And.intro @strV_str @i64_add) (And.intro @i64_sub (And.intro @i64_mul @i64_in))))) (And.intro (And.intro (And.intro (And.intro @int_eqd @int_ned) (And.intro @int_lss @int_leq)) (And.intro (And.intro @int_gtr @int_geq) (And.intro @str_eqd (And.intro @str_ned @if_true.{1})))) (And.intro (And.intro (And.intro @wp_bndH @wp_withH) (And.intro @wp_need @enc_int)) (And.intro (And.intro @enc_str @enc_byte) (And.intro @enc_bool (And.intro @List.getElem?_cons_zero.{0} @List.getElem?_cons_succ.{0})))))))
theorem Z2 : type_of% (And.intro (And.intro (And.intro (And.intro (And.intro (And.intro @cellP_get @cellG_cells) (And.intro @wp_st1g @stG_c)) (And.intro (And.intro @eq_self.{1} @true_and) (And.intro @wp_stng @stnG_ok))) (And.intro (And.intro (And.intro @wp_ldng @ldG_ok) (And.intro @wp_newcg @wp_boxg)) (And.intro (And.intro @Heap.get_push_eq @Heap.get_push_lt) (And.intro @Heap.get_set_eq (And.intro @Heap.get_set_ne' @Heap.next_push'))))) (And.intro (And.intro (And.intro (And.intro @Heap.next_set' @Heap.set_push_lt) (And.intro @Heap.set_push_eq @Heap.set_set)) (And.intro (And.intro @fld1_agg @fldn_agg) (And.intro @ext_tuple (And.intro @outV_nil @outV_two)))) (And.intro (And.intro (And.intro @outV_three @outV_four) (And.intro @chk_ld1g @chkO_int)) (And.intro (And.intro @chkO_bool @chkO_str) (And.intro @chkO_ptr (And.intro @chkO_slc @chkO_map)))))) (And.intro (And.intro (And.intro (And.intro (And.intro @List.set_cons_zero.{0} @List.set_cons_succ.{0}) (And.intro @List.length_cons.{0} @List.length_nil.{0})) (And.intro (And.intro @List.drop_succ_cons.{0} @List.drop_zero.{0}) (And.intro @List.take_succ_cons.{0} @List.take_zero.{0}))) (And.intro (And.intro (And.intro @List.nil_append.{0} @List.cons_append.{0}) (And.intro @isOne_int @isOne_str)) (And.intro (And.intro @isOne_bool @isOne_slice) (And.intro @isOne_pointer (And.intro @isOne_map @condM_nf))))) (And.intro (And.intro (And.intro (And.intro @condM_nef @gd_nef) (And.intro @gdf_nef @pick_nef)) (And.intro (And.intro @build_eq @fillA_nil) (And.intro @fillA_one (And.intro @fillA_agg @Option.map_some.{0,0})))) (And.intro (And.intro (And.intro @resv_one @resv_two) (And.intro @freeIn_nil @fillA_slc)) (And.intro (And.intro @fillA_int @fillA_str) (And.intro @fillA_bool (And.intro @fillA_ptr @fillA_map))))))) := (And.intro (And.intro (And.intro (And.intro (And.intro (And.intro @cellP_get @cellG_cells) (And.intro @wp_st1g @stG_c)) (And.intro (And.intro @eq_self.{1} @true_and) (And.intro @wp_stng @stnG_ok))) (And.intro (And.intro (And.intro @wp_ldng @ldG_ok) (And.intro @wp_newcg @wp_boxg)) (And.intro (And.intro @Heap.get_push_eq @Heap.get_push_lt) (And.intro @Heap.get_set_eq (And.intro @Heap.get_set_ne' @Heap.next_push'))))) (And.intro (And.intro (And.intro (And.intro @Heap.next_set' @Heap.set_push_lt) (And.intro @Heap.set_push_eq @Heap.set_set)) (And.intro (And.intro @fld1_agg @fldn_agg) (And.intro @ext_tuple (And.intro @outV_nil @outV_two)))) (And.intro (And.intro (And.intro @outV_three @outV_four) (And.intro @chk_ld1g @chkO_int)) (And.intro (And.intro @chkO_bool @chkO_str) (And.intro @chkO_ptr (And.intro @chkO_slc @chkO_map)))))) (And.intro (And.intro (And.intro (And.intro (And.intro @List.set_cons_zero.{0} @List.set_cons_succ.{0}) (And.intro @List.length_cons.{0} @List.length_nil.{0})) (And.intro (And.intro @List.drop_succ_cons.{0} @List.drop_zero.{0}) (And.intro @List.take_succ_cons.{0} @List.take_zero.{0}))) (And.intro (And.intro (And.intro @List.nil_append.{0} @List.cons_append.{0}) (And.intro @isOne_int @isOne_str)) (And.intro (And.intro @isOne_bool @isOne_slice) (And.intro @isOne_pointer (And.intro @isOne_map @condM_nf))))) (And.intro (And.intro (And.intro (And.intro @condM_nef @gd_nef) (And.intro @gdf_nef @pick_nef)) (And.intro (And.intro @build_eq @fillA_nil) (And.intro @fillA_one (And.intro @fillA_agg @Option.map_some.{0,0})))) (And.intro (And.intro (And.intro @resv_one @resv_two) (And.intro @freeIn_nil @fillA_slc)) (And.intro (And.intro @fillA_int @fillA_str) (And.intro @fillA_bool (And.intro @fillA_ptr @fillA_map)))))))
theorem Z3 : type_of% (And.intro @Heap.next_push' @Heap.next_set') := And.intro @Heap.next_push' @Heap.next_set'
end Go.AM

/- Maps that are walked in an order that nobody knows: what is needed of heaps, worlds and lists. -/
namespace Go.AM
open Go.RowKit (Below)
open Go.ChangeMaps (setBlock)

variable {P : Program} {N : Nat} {w₀ : World} {ρ : Ren} {H : Heap} {w : World} {σ : Calls'} {n : Nat}

/-! ### heaps of which what is new is forgotten -/
def Heap.cut (n : Nat) (H : Heap) : Heap := Heap.mk0 H.next fun b => if b < n then H.get b else none
theorem Heap.cut_next (n : Nat) (H : Heap) : (H.cut n).next = H.next := Heap.mk0_next _ _
theorem Heap.cut_get (n : Nat) (H : Heap) (b : Nat) : (H.cut n).get b = if b < n then H.get b else none := by
  unfold Heap.cut
  rw [Heap.mk0_get]
  by_cases h : b < H.next
  · rw [if_pos h]
  · rw [if_neg h, Heap.get_big (by omega)]; simp
theorem Heap.cut_some {n : Nat} {H : Heap} {b : Nat} {x : Blk} (h : (H.cut n).get b = some x) : H.get b = some x ∧ b < n := by
  rw [Heap.cut_get] at h
  split at h
  · exact ⟨h, by assumption⟩
  · cases h
theorem Rel.cut (h : Rel N w₀ ρ H w) (n : Nat) : Rel N w₀ ρ (H.cut n) w :=
  ⟨h.below, h.big, fun b hb => h.dom b (by rwa [Heap.cut_next] at hb), h.base, fun b x hx => h.blk b x (Heap.cut_some hx).1, fun b b' x x' L L' hx hx' => h.inj b b' x x' L L' (Heap.cut_some hx).1 (Heap.cut_some hx').1⟩
theorem Ext.cut {ρ' : Ren} {H' : Heap} {w' : World} (h : Ext ρ H w ρ' H' w') (n : Nat) : Ext ρ H w ρ' (H'.cut n) w' :=
  ⟨h.le, h.same, by rw [Heap.cut_next]; exact h.next, h.apart, fun b x L hb => h.old b x L (Heap.cut_some hb).1⟩

/-! ### worlds that turn where no abstract block lies -/
theorem Rel.other (h : Rel N w₀ ρ H w) {c : Nat} (hc : N ≤ c) (hfree : ∀ b x M, H.get b = some x → ρ b = some M → M.blk ≠ c) (w' : World) (hos : w'.os = w.os) (htape : w'.tape = w.tape) (hout : w'.output = w.output)
    (hsz : w'.heap.size = w.heap.size) (hold : ∀ k, k ≠ c → w'.heap[k]? = w.heap[k]?) : Rel N w₀ ρ H w' :=
  ⟨h.below.trans ⟨hos, htape, hout, by omega, fun k hk => hold k (by omega)⟩, by rw [hsz]; exact h.big, h.dom, h.base, fun b x hx => by
    obtain ⟨L, hL, hr⟩ := h.blk b x hx
    exact ⟨L, hL, hr.mono (Ren.le.refl _) (hold _ (hfree b x L hx hL))⟩, h.inj⟩
theorem setBlock_at {b : Nat} {o : Obj} (hb : b < w.heap.size) : (setBlock w b o).heap[b]? = some o := by simp [setBlock, Array.getElem?_setIfInBounds, hb]
theorem setBlock_ne {b k : Nat} {o : Obj} (hk : k ≠ b) : (setBlock w b o).heap[k]? = w.heap[k]? := by
  show (w.heap.setIfInBounds b o)[k]? = _
  exact Array.getElem?_setIfInBounds_ne (fun e => hk e.symm)
theorem setBlock_size {b : Nat} {o : Obj} : (setBlock w b o).heap.size = w.heap.size := by simp [setBlock]
theorem Rel.setBlock (h : Rel N w₀ ρ H w) {c : Nat} (hc : N ≤ c) (hfree : ∀ b x M, H.get b = some x → ρ b = some M → M.blk ≠ c) (o : Obj) : Rel N w₀ ρ H (setBlock w c o) :=
  h.other hc hfree _ rfl rfl rfl setBlock_size fun _ hk => setBlock_ne hk
theorem ext_setBlock {ρ' : Ren} {H' : Heap} {w' : World} (h : Ext ρ H w ρ' H' w') {c : Nat} (hc : w.heap.size ≤ c ∨ ∃ b x L, H.get b = some x ∧ ρ b = some L ∧ L.blk = c) (o : Obj) : Ext ρ H w ρ' H' (setBlock w' c o) :=
  ⟨h.le, h.same, h.next, ⟨by rw [setBlock_size]; exact h.apart.1, fun k hk hn => by
    rw [setBlock_ne, h.apart.2 k hk hn]
    rintro rfl
    rcases hc with q | ⟨b, x, L, h1, h2, h3⟩
    · omega
    · exact hn b x L h1 h2 h3⟩, h.old⟩
theorem Ext.drew {ρ' : Ren} {H' : Heap} {w' : World} (h : Ext ρ H w ρ' H' w') (k : Nat) : Ext ρ H w ρ' H' { w' with drawn := k } := ⟨h.le, h.same, h.next, h.apart, h.old⟩
/-- a block that is seen again -/
theorem Rel.revive (h : Rel N w₀ ρ H w) {b : Nat} {x : Blk} {L : Loc} (hb : b < H.next) (hL : ρ b = some L) (hx : BRel N ρ w L x) (hfree : ∀ c y M, H.get c = some y → ρ c = some M → M.blk ≠ L.blk) : Rel N w₀ ρ (H.set b (some x)) w := by
  refine ⟨h.below, h.big, fun c hc => h.dom c (by rwa [Heap.next_set] at hc), h.base, fun c y hy => ?_, fun c c' y y' M M' hy hy' hne hM hM' => ?_⟩
  · rw [Heap.get_set H b _ c hb] at hy
    split at hy
    · rename_i e; cases hy; subst e; exact ⟨L, hL, hx⟩
    · exact h.blk c y hy
  · rw [Heap.get_set H b _ _ hb] at hy hy'
    split at hy
    · rename_i e; subst e
      rw [hL] at hM; cases hM
      split at hy'
      · rename_i e'; exact absurd e'.symm hne
      · exact fun q => hfree c' y' M' hy' hM' q.symm
    · split at hy'
      · rename_i e'; subst e'
        rw [hL] at hM'; cases hM'
        exact hfree c y M hy hM
      · exact h.inj c c' y y' M M' hy hy' hne hM hM'
/-- a dead block: what the model alone holds -/
theorem Rel.dead (h : Rel N w₀ ρ H w) (o : Obj) : Rel N w₀ (ρ.add H.next ⟨w.heap.size, 0, 0⟩) (H.push none) (w.alloc o) := by
  have hno : ρ H.next = none := h.dom _ (Nat.le_refl _)
  have hle := Ren.le_add ⟨w.heap.size, 0, 0⟩ hno
  have hold : ∀ k, k < w.heap.size → (w.alloc o).heap[k]? = w.heap[k]? := fun k hk => by
    show (w.heap.push o)[k]? = _
    rw [Array.getElem?_push, if_neg (by omega)]
  have hold2 : ∀ b x, (H.push none).get b = some x → H.get b = some x ∧ b ≠ H.next := fun b x hx => by
    rw [Heap.get_push] at hx
    split at hx
    · cases hx
    · exact ⟨hx, by assumption⟩
  refine ⟨h.below.trans ⟨rfl, rfl, rfl, by show w.heap.size ≤ (w.heap.push o).size; simp, fun k hk => hold k (Nat.lt_of_lt_of_le hk h.big)⟩, ?_, fun b hb => ?_, fun b hb => by obtain ⟨s, hs⟩ := h.base b hb; exact ⟨s, hle _ _ hs⟩, fun b x hx => ?_, fun b b' x x' L L' hx hx' hne hL hL' => ?_⟩
  · show N ≤ (w.heap.push o).size
    have := h.big; simp; omega
  · rw [Heap.next_push] at hb
    unfold Ren.add; rw [if_neg (by omega)]; exact h.dom b (by omega)
  · obtain ⟨h1, h2⟩ := hold2 b x hx
    obtain ⟨L, hL, hr⟩ := h.blk b x h1
    exact ⟨L, hle _ _ hL, hr.mono hle (hold _ (h.lt h1 hL))⟩
  · obtain ⟨h1, h2⟩ := hold2 b x hx
    obtain ⟨h1', h2'⟩ := hold2 b' x' hx'
    unfold Ren.add at hL hL'
    rw [if_neg h2] at hL; rw [if_neg h2'] at hL'
    exact h.inj b b' x x' L L' h1 h1' hne hL hL'
theorem ext_dead (h : Rel N w₀ ρ H w) (o : Obj) : Ext ρ H w (ρ.add H.next ⟨w.heap.size, 0, 0⟩) (H.push none) (w.alloc o) := by
  have hno : ρ H.next = none := h.dom _ (Nat.le_refl _)
  refine ⟨Ren.le_add _ hno, fun b hb => by unfold Ren.add; rw [if_neg (by omega)], by rw [Heap.next_push]; omega, ⟨by show w.heap.size ≤ (w.heap.push o).size; simp, fun c hc _ => ?_⟩, fun b x L hb hL => ?_⟩
  · show (w.heap.push o)[c]? = _
    rw [Array.getElem?_push, if_neg (by omega)]
  · rw [Heap.get_push] at hb
    split at hb
    · cases hb
    · unfold Ren.add at hL
      rw [if_neg (by assumption)] at hL
      exact .inr ⟨b, x, L, hb, hL, rfl⟩

/-! ### keys -/
def keysApart (kk : KK) (es : List (V × V)) : Prop := ∀ i j, i < es.length → j < es.length → keyEq kk (es.getD i default).1 (es.getD j default).1 = some (decide (i = j))

theorem find_erase {kk : KK} {es : List (V × V)} (ha : keysApart kk es) {i : Nat} (hi : i < es.length) : ∀ (l : List Nat), l.Nodup → (∀ j ∈ l, j < es.length) → i ∈ l →
    ∃ p, findK kk (es.getD i default).1 (l.map fun j => es.getD j default) = some (some p) ∧ p < l.length ∧ l.eraseIdx p = l.filter fun j => !(j == i)
  | [], _, _, h => by cases h
  | x :: l, hn, hlt, hm => by
    have hx := ha i x hi (hlt x (by simp))
    simp only [List.map_cons, findK]
    rw [hx]
    by_cases e : i = x
    · subst e
      simp only [decide_true]
      refine ⟨0, rfl, by simp, ?_⟩
      rw [List.eraseIdx_zero, List.tail_cons, List.filter_cons, if_neg (by simp)]
      refine (List.filter_eq_self.2 fun j hj => ?_).symm
      have : j ≠ i := fun e => by subst e; exact (List.nodup_cons.1 hn).1 hj
      simpa using this
    · simp only [e, decide_false]
      have hm' : i ∈ l := by
        rcases List.mem_cons.1 hm with q | q
        · exact absurd q e
        · exact q
      obtain ⟨p, h1, h2, h3⟩ := find_erase ha hi l (List.nodup_cons.1 hn).2 (fun j hj => hlt j (by simp [hj])) hm'
      rw [h1]
      refine ⟨p + 1, rfl, by simpa using h2, ?_⟩
      rw [List.eraseIdx_cons_succ, h3, List.filter_cons, if_pos (by simpa using fun q => e q.symm)]

/-- a key is struck -/
theorem del_run {kk : KK} {k k' : V} {t u ty kt et : TypeId} (hu : P.underlying t = some (.map kt et)) (hf : keyT P kt = some kk) {es : List (V × V)} {E : Array MapEntry} {clk mb : Nat} (h1 : w.heap[mb]? = some (.map E clk))
    (h2 : LRel ρ (es.map (·.1)) (E.toList.map (·.key))) (hfit : keyFits kk k = true) (hk : VRel ρ k k') {i : Nat} (hi : findK kk k es = some (some i)) :
    (Builtin.delete_ #[t, u] ty #[.map (some mb), k']).run P w = .ok (.tuple #[]) (setBlock w mb (.map (E.eraseIdxIfInBounds i) clk)) := by
  have hck := fun em => checkKey_of hf hk hfit em w
  have hfk := findKey_of hf hk es E.toList (some i) h2 hi w
  have hlt2 := findK_lt kk k es i hi
  have hlE : i < E.size := by have := h2.length; simp at this; omega
  have hbind : (some i).bind (fun j => (E.toList[j]?).map fun e => (j, e.val)) = some (i, E[i].val) := by simp [hlE]
  rw [hbind] at hfk
  simp [Builtin.delete_, run_underlying hu, run_getObj_map h1, hck, hfk, run_setObj_map h1, setBlock]

/-! ### steps of a region -/
theorem hand_val {ops : Array Oper} {Q : Exit → Act → World → Prop} {rest : List Oper} {a : Act} {o : Oper} {d : Option Nat} {v : V} {w' : World} (hg : o.guard = none) (hd : o.dst = d) (hrun : (execOp a.eval o).run P w = .ok (.value v) w') (h : wpList P ops Q rest (a.put d v) w') : wpList P ops Q (o :: rest) a w := by
  subst hd
  unfold wpList
  rw [if_pos (by simp [Region.wanted, hg])]
  left
  unfold Oper.wp
  rw [hrun]; exact h
theorem step_op {ops : Array Oper} {Q : Exit → Act → World → Prop} {rest : List Oper} {a : Act} {en : Env} {o : Oper} {r1 : V} {H1 : Heap} (hσ : SimAll P σ) (hG : P.globals.size ≤ N) (h : Rel N w₀ ρ H w) (he : EnvRel n ρ en a) (hgd : gdM P σ ops o en H = some (r1, H1))
    (hk : ∀ r' w', Goes N w₀ ρ H w r1 H1 r' w' → wpList P ops Q rest (a.put o.dst r') w') : wpList P ops Q (o :: rest) a w := by
  unfold wpList
  have := gd_step (Q := Q) hσ hG h he hgd hk
  split
  · rename_i hw; rw [if_pos hw] at this; exact .inl this
  · rename_i hw; rw [if_neg hw] at this; exact this
theorem runOps_slots {ops : Array Oper} : ∀ (l : List Oper) (en en' : Env) (H H' : Heap), runOps P σ n ops l en ret H = some (en', H') → ∀ t, (∀ o ∈ l, o.dst ≠ some t) → en' t = en t
  | [], en, en', H, H', h, t, _ => by simp only [runOps, ret] at h; cases h; rfl
  | o :: l, en, en', H, H', h, t, ht => by
    have hput : ∀ v : V, (en.put n o.dst v) t = en t := fun v => by
      have := ht o (by simp)
      unfold Env.put
      cases hd : o.dst with
      | none => rfl
      | some d =>
        rw [hd] at this
        have hne : ¬ t = d := fun e => this (by rw [e])
        simp only
        cases Nat.blt d n
        · rfl
        · simp [beq_f hne]
    simp only [runOps] at h
    cases hm : plainMv o with
    | some x =>
      rw [hm] at h
      rw [runOps_slots l _ _ _ _ h t (fun o ho => ht o (by simp [ho]))]; exact hput _
    | none =>
      rw [hm] at h
      obtain ⟨v, H1, _, h2⟩ := bnd_inv h
      rw [runOps_slots l _ _ _ _ h2 t (fun o ho => ht o (by simp [ho]))]; exact hput _
theorem EnvRel.weak {en en2 : Env} {a : Act} (h : EnvRel n ρ en a) (hw : ∀ t, en2 t = en t ∨ en2 t = undef) : EnvRel n ρ en2 a :=
  ⟨h.size, fun t => by rcases hw t with q | q <;> rw [q]; exact h.slot t; exact .undef _⟩
end Go.AM
