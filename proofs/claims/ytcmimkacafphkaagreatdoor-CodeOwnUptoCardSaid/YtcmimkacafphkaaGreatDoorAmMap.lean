import Derived.Test.YtcmimkacafphkaaGreatDoorAmSlc
import Derived.Test.YtcmimkacafphkaaGreatDoorAmMaps
import Derived.Test.YtcmimkacafphkaaGreatDoorAmOwnF
import Derived.Test.YtcmimkacafphkaaGreatDoorAmBase
import Derived.Maps.RangeRun
set_option linter.all false
/- Slices among the cells of other things. -/
namespace Go.AM

/-- a slice among the cells of another thing -/
structure In (α : Type) where
  v : V
  xs : List α
  one : v.isOne = true
instance {α : Type} : Inhabited (In α) := ⟨⟨.slice none 0 0, [], rfl⟩⟩


instance {α : Type} : Flat (In α) := ⟨1, fun a => [a.v], fun _ => rfl, fun a => by simp [a.one], by decide⟩
/-- slices of slices: all may be looked at -/
structure Sl2 {α : Type} [Flat α] (H : Heap) (v : V) (xs : List (In α)) : Prop where
  out : Sl H v xs
  inn : ∀ x ∈ xs, Sl H x.v x.xs
theorem Sl2.keep0 {α : Type} [Flat α] {H H' : Heap} {v : V} {xs : List (In α)} (h : Sl2 H v xs) (hk : Keeps [] H H') : Sl2 H' v xs := ⟨h.out.keep0 hk, fun x hx => (h.inn x hx).keep0 hk⟩
theorem Sl2.at {α : Type} [Flat α] {H : Heap} {v : V} {xs : List (In α)} (h : Sl2 H v xs) {i : Nat} (hi : i < xs.length) : Sl H (xs.getD i default).v (xs.getD i default).xs := by
  rw [List.getD_eq_getElem?_getD, List.getElem?_eq_getElem hi]
  exact h.inn _ (List.getElem_mem hi)
theorem Sl2.get {α : Type} [Flat α] {H : Heap} {v : V} {xs : List (In α)} (h : Sl2 H v xs) {i : Nat} (hi : i < xs.length) : iaddrS 1 v (i64 i) = some (ptr (slB v) (slO v + i)) ∧ cellP H (ptr (slB v) (slO v + i)) = some (xs.getD i default).v := by
  have h1 := h.out.addr1 rfl (k := .i64) (i := i) (by omega) (by omega)
  rw [Int.toNat_natCast] at h1
  exact ⟨h1, by rw [h.out.cell1 rfl hi default]; rfl⟩
end Go.AM

/- The rules that a walk always has, as two lemmas. -/
namespace Go.AM
theorem Z1 : type_of% (And.intro (And.intro (And.intro (And.intro (And.intro (And.intro @at_zero @at_succ) (And.intro @wp_bnd @wp_lift)) (And.intro (And.intro @wpO_some @wp_ret) (And.intro @nx_nxt @nx_brk))) (And.intro (And.intro (And.intro @nx_ret @unblk_nxt) (And.intro @unblk_ret @unblk_brk)) (And.intro (And.intro @finM_nxt @finM_ret) (And.intro @outV_one (And.intro @condM_t @condM_f))))) (And.intro (And.intro (And.intro (And.intro @condM_dt @condM_df) (And.intro @gd_t @gd_f)) (And.intro (And.intro @gdf_t @gdf_f) (And.intro @gd_skip @gd_dt))) (And.intro (And.intro (And.intro @gd_df @gdf_dt) (And.intro @gdf_df @pick_t)) (And.intro (And.intro @pick_f @pick_dt) (And.intro @pick_df (And.intro @not_t @not_f)))))) (And.intro (And.intro (And.intro (And.intro (And.intro @not_dec @isNil_ptr) (And.intro @isNil_ptr' @isNil_pnil)) (And.intro (And.intro @isNil_pnil' @nilck_ptr) (And.intro @faddr_ptr @Nat.zero_add))) (And.intro (And.intro (And.intro @Nat.add_zero @wp_ld1) (And.intro @lenStr_str @lenSlc_slice)) (And.intro (And.intro @strV_str @i64_add) (And.intro @i64_sub (And.intro @i64_mul @i64_in))))) (And.intro (And.intro (And.intro (And.intro @int_eqd @int_ned) (And.intro @int_lss @int_leq)) (And.intro (And.intro @int_gtr @int_geq) (And.intro @str_eqd (And.intro @str_ned @if_true.{1})))) (And.intro (And.intro (And.intro @wp_bndH @wp_withH) (And.intro @wp_need @enc_int)) (And.intro (And.intro @enc_str @enc_byte) (And.intro @enc_bool (And.intro @List.getElem?_cons_zero.{0} @List.getElem?_cons_succ.{0}))))))) := (And.intro (And.intro (And.intro (And.intro (And.intro (And.intro @at_zero @at_succ) (And.intro @wp_bnd @wp_lift)) (And.intro (And.intro @wpO_some @wp_ret) (And.intro @nx_nxt @nx_brk))) (And.intro (And.intro (And.intro @nx_ret @unblk_nxt) (And.intro @unblk_ret @unblk_brk)) (And.intro (And.intro @finM_nxt @finM_ret) (And.intro @outV_one (And.intro @condM_t @condM_f))))) (And.intro (And.intro (And.intro (And.intro @condM_dt @condM_df) (And.intro @gd_t @gd_f)) (And.intro (And.intro @gdf_t @gdf_f) (And.intro @gd_skip @gd_dt))) (And.intro (And.intro (And.intro @gd_df @gdf_dt) (And.intro @gdf_df @pick_t)) (And.intro (And.intro @pick_f @pick_dt) (And.intro @pick_df (And.intro @not_t @not_f)))))) (And.intro (And.intro (And.intro (And.intro (And.intro @not_dec @isNil_ptr) (And.intro @isNil_ptr' @isNil_pnil)) (And.intro (And.intro @isNil_pnil' @nilck_ptr) (And.intro @faddr_ptr @Nat.zero_add))) (And.intro (And.intro (And.intro @Nat.add_zero @wp_ld1) (And.intro @lenStr_str @lenSlc_slice)) (And.intro (And.intro @strV_str @i64_add) (And.intro @i64_sub (And.intro @i64_mul @i64_in))))) (And.intro (And.intro (And.intro (And.intro @int_eqd @int_ned) (And.intro @int_lss @int_leq)) (And.intro (And.intro @int_gtr @int_geq) (And.intro @str_eqd (And.intro @str_ned @if_true.{1})))) (And.intro (And.intro (And.intro @wp_bndH @wp_withH) (And.intro @wp_need @enc_int)) (And.intro (And.intro @enc_str @enc_byte) (And.intro @enc_bool (And.intro @List.getElem?_cons_zero.{0} @List.getElem?_cons_succ.{0})))))))
theorem Z2 : type_of% (And.intro (And.intro (And.intro (And.intro (And.intro (And.intro @cellP_get @cellG_cells) (And.intro @wp_st1g @stG_c)) (And.intro (And.intro @eq_self.{1} @true_and) (And.intro @wp_stng @stnG_ok))) (And.intro (And.intro (And.intro @wp_ldng @ldG_ok) (And.intro @wp_newcg @wp_boxg)) (And.intro (And.intro @Heap.get_push_eq @Heap.get_push_lt) (And.intro @Heap.get_set_eq (And.intro @Heap.get_set_ne' @Heap.next_push'))))) (And.intro (And.intro (And.intro (And.intro @Heap.next_set' @Heap.set_push_lt) (And.intro @Heap.set_push_eq @Heap.set_set)) (And.intro (And.intro @fld1_agg @fldn_agg) (And.intro @ext_tuple (And.intro @outV_nil @outV_two)))) (And.intro (And.intro (And.intro @outV_three @outV_four) (And.intro @chk_ld1g @chkO_int)) (And.intro (And.intro @chkO_bool @chkO_str) (And.intro @chkO_ptr (And.intro @chkO_slc @chkO_map)))))) (And.intro (And.intro (And.intro (And.intro (And.intro @List.set_cons_zero.{0} @List.set_cons_succ.{0}) (And.intro @List.length_cons.{0} @List.length_nil.{0})) (And.intro (And.intro @List.drop_succ_cons.{0} @List.drop_zero.{0}) (And.intro @List.take_succ_cons.{0} @List.take_zero.{0}))) (And.intro (And.intro (And.intro @List.nil_append.{0} @List.cons_append.{0}) (And.intro @isOne_int @isOne_str)) (And.intro (And.intro @isOne_bool @isOne_slice) (And.intro @isOne_pointer (And.intro @isOne_map @condM_nf))))) (And.intro (And.intro (And.intro (And.intro @condM_nef @gd_nef) (And.intro @gdf_nef @pick_nef)) (And.intro (And.intro @build_eq @fillA_nil) (And.intro @fillA_one (And.intro @fillA_agg @Option.map_some.{0,0})))) (And.intro (And.intro (And.intro @resv_one @resv_two) (And.intro @freeIn_nil @fillA_slc)) (And.intro (And.intro @fillA_int @fillA_str) (And.intro @fillA_bool (And.intro @fillA_ptr @fillA_map))))))) := (And.intro (And.intro (And.intro (And.intro (And.intro (And.intro @cellP_get @cellG_cells) (And.intro @wp_st1g @stG_c)) (And.intro (And.intro @eq_self.{1} @true_and) (And.intro @wp_stng @stnG_ok))) (And.intro (And.intro (And.intro @wp_ldng @ldG_ok) (And.intro @wp_newcg @wp_boxg)) (And.intro (And.intro @Heap.get_push_eq @Heap.get_push_lt) (And.intro @Heap.get_set_eq (And.intro @Heap.get_set_ne' @Heap.next_push'))))) (And.intro (And.intro (And.intro (And.intro @Heap.next_set' @Heap.set_push_lt) (And.intro @Heap.set_push_eq @Heap.set_set)) (And.intro (And.intro @fld1_agg @fldn_agg) (And.intro @ext_tuple (And.intro @outV_nil @outV_two)))) (And.intro (And.intro (And.intro @outV_three @outV_four) (And.intro @chk_ld1g @chkO_int)) (And.intro (And.intro @chkO_bool @chkO_str) (And.intro @chkO_ptr (And.intro @chkO_slc @chkO_map)))))) (And.intro (And.intro (And.intro (And.intro (And.intro @List.set_cons_zero.{0} @List.set_cons_succ.{0}) (And.intro @List.length_cons.{0} @List.length_nil.{0})) (And.intro (And.intro @List.drop_succ_cons.{0} @List.drop_zero.{0}) (And.intro @List.take_succ_cons.{0} @List.take_zero.{0}))) (And.intro (And.intro (And.intro @List.nil_append.{0} @List.cons_append.{0}) (And.intro @isOne_int @isOne_str)) (And.intro (And.intro @isOne_bool @isOne_slice) (And.intro @isOne_pointer (And.intro @isOne_map @condM_nf))))) (And.intro (And.intro (And.intro (And.intro @condM_nef @gd_nef) (And.intro @gdf_nef @pick_nef)) (And.intro (And.intro @build_eq @fillA_nil) (And.intro @fillA_one (And.intro @fillA_agg @Option.map_some.{0,0})))) (And.intro (And.intro (And.intro @resv_one @resv_two) (And.intro @freeIn_nil @fillA_slc)) (And.intro (And.intro @fillA_int @fillA_str) (And.intro @fillA_bool (And.intro @fillA_ptr @fillA_map)))))))
theorem Z3 : type_of% (And.intro @Heap.next_push' @Heap.next_set') := And.intro @Heap.next_push' @Heap.next_set'
end Go.AM

/- Things on the heap that lie apart from each other. -/
namespace Go.AM

/-- a thing: its blocks, and what is said of them -/
structure Thing where
  fp : List Nat
  P : Heap → Prop
  loc : ∀ {H H' : Heap}, H.next ≤ H'.next → (∀ b ∈ fp, H'.get b = H.get b) → P H → P H'
  lt : ∀ {H : Heap}, P H → ∀ b ∈ fp, b < H.next

/-- a block of cells -/
def cel (d : Nat) (cs : List V) : Thing := ⟨[d], fun H => H.get d = some (.cells true cs), fun _ h p => by rw [h d (by simp)]; exact p, fun p b hb => by simp at hb; subst hb; exact Heap.get_lt p⟩
/-- an own slice -/
def own {α : Type} [Flat α] (v : V) (xs : List α) : Thing :=
  ⟨vb v, fun H => OwnF H v xs, fun _ h p => by
    rcases p with p | ⟨b, rfl, hb⟩
    · exact .inl p
    · exact .inr ⟨b, rfl, by rw [h b (by simp)]; exact hb⟩, fun p => p.lt⟩
/-- things that lie apart, all newer than H0; what was in H0 is as it was -/
structure Hp (H0 H : Heap) (L : List Thing) : Prop where
  keeps : Keeps [] H0 H
  new : ∀ t ∈ L, ∀ b ∈ t.fp, H0.next ≤ b
  all : ∀ t ∈ L, t.P H
  apart : L.Pairwise fun t u => ∀ b ∈ t.fp, b ∉ u.fp

theorem Hp.start (H : Heap) : Hp H H [] := ⟨Keeps.refl _ _, by simp, by simp, List.Pairwise.nil⟩
variable {H0 H H' : Heap} {L : List Thing} {t t' : Thing}
theorem Hp.keep (h : Hp H0 H L) {S : List Nat} (hk : Keeps S H H') (hs : ∀ b ∈ S, H0.next ≤ b ∧ ∀ t ∈ L, b ∉ t.fp) : Hp H0 H' L :=
  ⟨h.keeps.trans hk (fun b hb hm => by have := (hs b hm).1; omega), h.new, fun t ht => t.loc hk.next (fun b hb => hk.same b (t.lt (h.all t ht) b hb) fun q => (hs b q).2 t ht hb) (h.all t ht), h.apart⟩
theorem Hp.keep0 (h : Hp H0 H L) (hk : Keeps [] H H') : Hp H0 H' L := h.keep hk (by simp)
theorem Hp.push (h : Hp H0 H L) (x : Option Blk) : Hp H0 (H.push x) L := h.keep0 (Keeps.push _ _ _)
theorem Hp.head (h : Hp H0 H (t :: L)) : t.P H := h.all t (by simp)
theorem Hp.tail (h : Hp H0 H (t :: L)) : Hp H0 H L := ⟨h.keeps, fun u hu => h.new u (by simp [hu]), fun u hu => h.all u (by simp [hu]), (List.pairwise_cons.1 h.apart).2⟩
theorem Hp.drop (h : Hp H0 H L) (n : Nat) : Hp H0 H (L.drop n) := ⟨h.keeps, fun u hu => h.new u (List.mem_of_mem_drop hu), fun u hu => h.all u (List.mem_of_mem_drop hu), h.apart.sublist (List.drop_sublist n L)⟩
theorem Hp.sub {L' : List Thing} (h : Hp H0 H L) (hs : L'.Sublist L) : Hp H0 H L' := ⟨h.keeps, fun u hu => h.new u (hs.subset hu), fun u hu => h.all u (hs.subset hu), h.apart.sublist hs⟩
theorem Hp.perm {L' : List Thing} (h : Hp H0 H L) (hp : L.Perm L') : Hp H0 H L' :=
  ⟨h.keeps, fun u hu => h.new u (hp.mem_iff.2 hu), fun u hu => h.all u (hp.mem_iff.2 hu), (hp.pairwise_iff (R := fun t u : Thing => ∀ b ∈ t.fp, b ∉ u.fp) (fun h b hb hb' => h b hb' hb)).1 h.apart⟩
theorem Hp.at (h : Hp H0 H L) {i : Nat} (hi : L[i]? = some t) : t.P H := h.all t (List.mem_of_getElem? hi)
theorem perm_front {α : Type} : ∀ {L : List α} {i : Nat} {t : α}, L[i]? = some t → L.Perm (t :: L.eraseIdx i)
  | [], i, t, h => by simp at h
  | x :: l, 0, t, h => by simp at h; subst h; exact List.Perm.refl _
  | x :: l, i + 1, t, h => by
    have := perm_front (L := l) (i := i) (t := t) (by simpa using h)
    exact (List.Perm.cons x this).trans (List.Perm.swap _ _ _)
theorem perm_set {α : Type} : ∀ {L : List α} {i : Nat} {t u : α}, L[i]? = some t → (u :: L.eraseIdx i).Perm (L.set i u)
  | [], i, t, u, h => by simp at h
  | x :: l, 0, t, u, h => by simp
  | x :: l, i + 1, t, u, h => by
    have := perm_set (L := l) (i := i) (t := t) (u := u) (by simpa using h)
    exact (List.Perm.swap _ _ _).trans (List.Perm.cons x this)
theorem Hp.front (h : Hp H0 H L) {i : Nat} (hi : L[i]? = some t) : Hp H0 H (t :: L.eraseIdx i) := h.perm (perm_front hi)
/-- a new thing -/
theorem Hp.add (h : Hp H0 H L) (hk : Keeps [] H H') (ht : t.P H') (hn : ∀ b ∈ t.fp, H.next ≤ b) : Hp H0 H' (t :: L) := by
  have h1 := h.keep0 hk
  refine ⟨h1.keeps, fun u hu => ?_, fun u hu => ?_, List.pairwise_cons.2 ⟨fun u hu b hb hb' => ?_, h1.apart⟩⟩
  · rcases List.mem_cons.1 hu with rfl | hu
    · exact fun b hb => Nat.le_trans h.keeps.next (hn b hb)
    · exact h.new u hu
  · rcases List.mem_cons.1 hu with rfl | hu
    · exact ht
    · exact h1.all u hu
  · have := hn b hb
    have := u.lt (h.all u hu) b hb'
    omega
theorem Hp.newc (h : Hp H0 H L) (cs : List V) : Hp H0 (H.push (some (.cells true cs))) (cel H.next cs :: L) :=
  h.add (Keeps.push _ _ _) (Heap.get_push_self _ _) (by
    intro b hb
    have : b = H.next := by simpa [cel] using hb
    omega)
theorem Hp.newo {α : Type} [Flat α] (h : Hp H0 H L) {n m : Nat} (xs : List α) (hs : Flat.size α = n) (hm : xs.length = m) : Hp H0 (H.push (some (.cells true (encs xs)))) (own (slc H.next 0 n m m) xs :: L) :=
  h.add (Keeps.push _ _ _) (ownF_push hs hm) (by
    intro b hb
    have : b = H.next := by simpa [own] using hb
    omega)
/-- a thing becomes another one -/
theorem Hp.step1 (h : Hp H0 H (t :: L)) (hk : Keeps t.fp H H') (ht : t'.P H') (hn : ∀ b ∈ t'.fp, b ∈ t.fp ∨ H.next ≤ b) : Hp H0 H' (t' :: L) := by
  have hp := (List.pairwise_cons.1 h.apart).1
  have h1 : Hp H0 H' L := h.tail.keep hk fun b hb => ⟨h.new t (by simp) b hb, fun u hu => hp u hu b hb⟩
  refine ⟨h1.keeps, fun u hu => ?_, fun u hu => ?_, List.pairwise_cons.2 ⟨fun u hu b hb hb' => ?_, h1.apart⟩⟩
  · rcases List.mem_cons.1 hu with rfl | hu
    · intro b hb
      rcases hn b hb with q | q
      · exact h.new t (by simp) b q
      · exact Nat.le_trans h.keeps.next q
    · exact h1.new u hu
  · rcases List.mem_cons.1 hu with rfl | hu
    · exact ht
    · exact h1.all u hu
  · rcases hn b hb with q | q
    · exact hp u hu b q hb'
    · have := u.lt (h.all u (by simp [hu])) b hb'; omega
theorem Hp.step (h : Hp H0 H L) {i : Nat} (hi : L[i]? = some t) (hk : Keeps t.fp H H') (ht : t'.P H') (hn : ∀ b ∈ t'.fp, b ∈ t.fp ∨ H.next ≤ b) : Hp H0 H' (L.set i t') :=
  ((h.front hi).step1 hk ht hn).perm (perm_set hi)
theorem Hp.get {d i : Nat} {cs : List V} (h : Hp H0 H L) (hi : L[i]? = some (cel d cs)) : H.get d = some (.cells true cs) := h.at hi
theorem Hp.set {d i : Nat} {cs : List V} (h : Hp H0 H L) (hi : L[i]? = some (cel d cs)) (cs' : List V) : Hp H0 (H.set d (some (.cells true cs'))) (L.set i (cel d cs')) :=
  h.step hi (Keeps.set (by simp [cel])) (Heap.get_set_eq (Heap.get_lt (h.get hi))) (fun b hb => .inl hb)
theorem Hp.own {α : Type} [Flat α] {i : Nat} {v : V} {xs : List α} (h : Hp H0 H L) (hi : L[i]? = some (own v xs)) : OwnF H v xs := h.at hi
/-- what is there is looked at alone, for a while -/
theorem Hp.join {B : List Thing} (h : Hp H0 H L) (h2 : Hp H H' B) : Hp H0 H' (B ++ L) := by
  have := (h.keep0 h2.keeps)
  refine ⟨this.keeps, fun u hu => ?_, fun u hu => ?_, List.pairwise_append.2 ⟨h2.apart, h.apart, fun t ht u hu b hb hb' => ?_⟩⟩
  · rcases List.mem_append.1 hu with hu | hu
    · exact fun b hb => Nat.le_trans h.keeps.next (h2.new u hu b hb)
    · exact h.new u hu
  · rcases List.mem_append.1 hu with hu | hu
    · exact h2.all u hu
    · exact this.all u hu
  · have := h2.new t ht b hb
    have := u.lt (h.all u hu) b hb'
    omega

/-! ### appending -/
theorem st_appV {α : Type} [Flat α] {v x : V} {xs ys : List α} {n bytes i : Nat} {Q : V → Heap → Prop} (h : Hp H0 H L) (hi : L[i]? = some (Go.AM.own v xs)) (hs : Flat.size α = n) (hx : Sl H x ys) (hb : (xs.length + ys.length) * bytes ≤ 35184372088832) (hb2 : xs.length + ys.length ≤ 35184372088832)
    (hQ : ∀ w H', Hp H0 H' (L.set i (Go.AM.own w (xs ++ ys))) → Q w H') : wp (appV n bytes v x) Q H :=
  ownF_appV hs (h.own hi) hx hb hb2 fun w H' o k vv => hQ w H' (h.step hi k o vv)
/-! ### a field of an own element -/
theorem OwnF.at {α : Type} [Flat α] {H : Heap} {v : V} {xs : List α} (h : OwnF H v xs) (hne : xs ≠ []) : slO v = 0 ∧ H.get (slB v) = some (.cells true (encs xs)) ∧ v = slc (slB v) 0 (Flat.size α) xs.length xs.length := by
  rcases h with ⟨_, q⟩ | ⟨b, rfl, hb⟩
  · exact absurd q hne
  · exact ⟨rfl, hb, rfl⟩
theorem OwnF.to {α : Type} [Flat α] {H H' : Heap} {v : V} {xs ys : List α} (h : OwnF H v xs) (hne : xs ≠ []) (hl : ys.length = xs.length) (hg : H'.get (slB v) = some (.cells true (encs ys))) : OwnF H' v ys := by
  rcases h with ⟨_, q⟩ | ⟨b, rfl, hb⟩
  · exact absurd q hne
  · exact .inr ⟨b, by rw [hl], hg⟩
theorem st_elt {α : Type} [Flat α] {v : V} {xs : List α} {x' : α} {idx i n : Nat} {Q : V → Heap → Prop} (h : Hp H0 H L) (hidx : L[idx]? = some (Go.AM.own v xs)) (hs : Flat.size α = n) (hi : i < xs.length)
    (hQ : ∀ H', Hp H0 H' (L.set idx (Go.AM.own v (xs.set i x'))) → Q undef H') : wp (stn n (ptr (slB v) (slO v + i * n)) (.agg (Flat.enc x').toArray)) Q H := by
  subst hs
  have o := h.own hidx
  have hne : xs ≠ [] := by intro q; rw [q] at hi; simp at hi
  obtain ⟨e0, hg, ev⟩ := o.at hne
  have hlen := encs_length xs
  have hin : i * Flat.size α + Flat.size α ≤ (encs xs).length := by
    rw [hlen]
    calc i * Flat.size α + Flat.size α = (i + 1) * Flat.size α := by rw [Nat.add_mul]; omega
      _ ≤ xs.length * Flat.size α := Nat.mul_le_mul_right _ (by omega)
  rw [e0, Nat.zero_add]
  refine (wp_stn hg (Flat.one x') (Flat.len x') hin).mpr ?_
  rw [encs_splice xs i x' hi]
  refine hQ _ (h.step hidx (Keeps.set (by show slB v ∈ vb v; rw [ev]; simp [slB])) (o.to hne (by simp) (Heap.get_set_eq (Heap.get_lt hg))) fun b hb => .inl hb)
end Go.AM

/- Maps that are walked in an order that nobody knows: what is needed of heaps, worlds and lists. -/
namespace Go.AM
open Go.RowKit (Below)
open Go.ChangeMaps (setBlock)

variable {P : Program} {N : Nat} {w₀ : World} {ρ : Ren} {H : Heap} {w : World} {σ : Calls'} {n : Nat}

/-! ### heaps of which what is new is forgotten -/
def Heap.cut (n : Nat) (H : Heap) : Heap := ⟨(List.range H.next).map fun b => if b < n then H.get b else none⟩
theorem Heap.cut_next (n : Nat) (H : Heap) : (H.cut n).next = H.next := by simp [Heap.cut, Heap.next]
theorem Heap.cut_get (n : Nat) (H : Heap) (b : Nat) : (H.cut n).get b = if b < n then H.get b else none := by
  have key : ∀ x : Option Blk, (match (some x : Option (Option Blk)) with | some (some x) => some x | _ => none) = x := fun x => by cases x <;> rfl
  by_cases h : b < H.next
  · have e : (H.cut n).blk[b]? = some (if b < n then H.get b else none) := by simp [Heap.cut, h]
    show (match (H.cut n).blk[b]? with | some (some x) => some x | _ => none) = _
    rw [e]
    exact key _
  · have e : (H.cut n).blk[b]? = none := List.getElem?_eq_none (by simp [Heap.cut]; omega)
    have e2 : H.get b = none := by
      show (match H.blk[b]? with | some (some x) => some x | _ => none) = none
      rw [List.getElem?_eq_none (by simpa [Heap.next] using h)]
    show (match (H.cut n).blk[b]? with | some (some x) => some x | _ => none) = _
    rw [e, e2]; simp
theorem Heap.cut_some {n : Nat} {H : Heap} {b : Nat} {x : Blk} (h : (H.cut n).get b = some x) : H.get b = some x ∧ b < n := by
  rw [Heap.cut_get] at h
  split at h
  · exact ⟨h, by assumption⟩
  · cases h
theorem Rel.cut (h : Rel N w₀ ρ H w) (n : Nat) : Rel N w₀ ρ (H.cut n) w :=
  ⟨h.below, h.big, fun b hb => h.dom b (by rwa [Heap.cut_next] at hb), h.base, fun b x hx => h.blk b x (Heap.cut_some hx).1, fun b b' x x' L L' hx hx' => h.inj b b' x x' L L' (Heap.cut_some hx).1 (Heap.cut_some hx').1⟩
theorem Ext.cut {ρ' : Ren} {H' : Heap} {w' : World} (h : Ext ρ H w ρ' H' w') (n : Nat) : Ext ρ H w ρ' (H'.cut n) w' :=
  ⟨h.le, h.same, by rw [Heap.cut_next]; exact h.next, h.apart, fun b x L hb => h.old b x L (Heap.cut_some hb).1⟩

/-! ### worlds that turn where no abstract block lies -/
theorem Rel.other (h : Rel N w₀ ρ H w) {c : Nat} (hc : N ≤ c) (hfree : ∀ b x M, H.get b = some x → ρ b = some M → M.blk ≠ c) (w' : World) (hos : w'.os = w.os) (htape : w'.tape = w.tape) (hout : w'.output = w.output)
    (hsz : w'.heap.size = w.heap.size) (hold : ∀ k, k ≠ c → w'.heap[k]? = w.heap[k]?) : Rel N w₀ ρ H w' :=
  ⟨h.below.trans ⟨hos, htape, hout, by omega, fun k hk => hold k (by omega)⟩, by rw [hsz]; exact h.big, h.dom, h.base, fun b x hx => by
    obtain ⟨L, hL, hr⟩ := h.blk b x hx
    exact ⟨L, hL, hr.mono (Ren.le.refl _) (hold _ (hfree b x L hx hL))⟩, h.inj⟩
theorem setBlock_ne {b k : Nat} {o : Obj} (hk : k ≠ b) : (setBlock w b o).heap[k]? = w.heap[k]? := by
  show (w.heap.setIfInBounds b o)[k]? = _
  exact Array.getElem?_setIfInBounds_ne (fun e => hk e.symm)
theorem setBlock_size {b : Nat} {o : Obj} : (setBlock w b o).heap.size = w.heap.size := by simp [setBlock]
theorem Rel.setBlock (h : Rel N w₀ ρ H w) {c : Nat} (hc : N ≤ c) (hfree : ∀ b x M, H.get b = some x → ρ b = some M → M.blk ≠ c) (o : Obj) : Rel N w₀ ρ H (setBlock w c o) :=
  h.other hc hfree _ rfl rfl rfl setBlock_size fun _ hk => setBlock_ne hk
theorem Ext.drew {ρ' : Ren} {H' : Heap} {w' : World} (h : Ext ρ H w ρ' H' w') (k : Nat) : Ext ρ H w ρ' H' { w' with drawn := k } := ⟨h.le, h.same, h.next, h.apart, h.old⟩
end Go.AM
