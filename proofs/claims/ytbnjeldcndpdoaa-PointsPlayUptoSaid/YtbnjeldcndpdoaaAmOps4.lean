import Derived.Test.YtbnjeldcndpdoaaAmOps3
import Derived.Laws.BytesString
set_option linter.all false
/- Operations that read memory, and the words for those that make and write it. -/
namespace Go.AM
open Go.RowKit (Below)

variable {P : Program} {N : Nat} {w₀ : World} {ρ : Ren} {H : Heap} {w : World}

theorem cell_of {b o : Nat} {C : Array V} {e : TypeId} {f : Nat × Nat} (h : w.heap[b]? = some (.cells C e f)) : w.cell? ⟨b, o, none⟩ = C[o]? := by
  simp [World.cell?, h]

/-- the cells of an abstract block, on the real side -/
theorem Rel.cells (h : Rel N w₀ ρ H w) {b : Nat} {rw_ : Bool} {cs : List V} (hb : H.get b = some (.cells rw_ cs)) {L : Loc} (hL : ρ b = some L) :
    ∃ C e f, w.heap[L.blk]? = some (.cells C e f) ∧ C.size = L.size ∧ (rw_ = true → N ≤ L.blk ∧ ∀ i, i < C.size → ¬ (f.1 ≤ i ∧ i < f.2)) ∧ L.off + cs.length ≤ C.size ∧ LRel ρ cs ((C.toList.drop L.off).take cs.length) := by
  obtain ⟨K, hK, hr⟩ := h.blk b _ hb
  rw [hL] at hK; cases hK
  obtain ⟨C, e, f, h1, h2, h3, h4⟩ := hr
  exact ⟨C, e, f, h1, h2, h3.1, h4⟩

theorem Rel.cell (h : Rel N w₀ ρ H w) {b o : Nat} {v : V} (hc : H.cell b o = some v) {L : Loc} (hL : ρ b = some L) : ∃ v', w.cell? ⟨L.blk, L.off + o, none⟩ = some v' ∧ VRel ρ v v' := by
  unfold Heap.cell at hc
  split at hc
  · rename_i rw_ cs hb
    obtain ⟨C, e, f, h1, h2, h3, h4, h5⟩ := h.cells hb hL
    obtain ⟨v', hv', hr⟩ := h5.get o v hc
    have ho : o < cs.length := by
      rcases Nat.lt_or_ge o cs.length with hl | hl
      · exact hl
      · rw [List.getElem?_eq_none hl] at hc; cases hc
    refine ⟨v', ?_, hr⟩
    rw [cell_of h1]
    simpa [List.getElem?_take, ho, List.getElem?_drop] using hv'
  · cases hc

theorem Rel.cellsAt (h : Rel N w₀ ρ H w) {b o n : Nat} {l : List V} (hc : AM.cellsAt H b o n = some l) {L : Loc} (hL : ρ b = some L) :
    l.length = n ∧ ∃ l', LRel ρ l l' ∧ ∀ j v, l'[j]? = some v → w.cell? ⟨L.blk, L.off + o + j, none⟩ = some v := by
  unfold AM.cellsAt at hc
  split at hc
  · rename_i rw_ cs hb
    split at hc
    · rename_i hle
      cases hc
      obtain ⟨C, e, f, h1, h2, h3, h4, h5⟩ := h.cells hb hL
      refine ⟨by simp; omega, _, (h5.drop o).take n, fun j v hj => ?_⟩
      rw [cell_of h1]
      simp only [List.getElem?_take, List.getElem?_drop] at hj
      split at hj
      · split at hj
        · rw [show L.off + o + j = L.off + (o + j) by omega]; simpa using hj
        · cases hj
      · cases hj
    · cases hc
  · cases hc

theorem add_at (b o n : Nat) : (⟨b, o, none⟩ : Addr).add n = ⟨b, o + n, none⟩ := by
  unfold Addr.add; split
  · simp_all
  · rfl

theorem run_loadCells_at {b o : Nat} {l : List V} (h : ∀ j v, l[j]? = some v → w.cell? ⟨b, o + j, none⟩ = some v) : (loadCells ⟨b, o, none⟩ l.length).run P w = .ok l.toArray w :=
  run_loadCells_list w ⟨b, o, none⟩ l fun j v hj => by rw [add_at]; exact h j v hj

theorem byteOf_inv {v v' : V} {b : UInt8} (h : byteOf? v = some b) (hv : VRel ρ v v') : ∃ n : Int, v' = .int .u8 n ∧ b = UInt8.ofNat n.toNat := by
  unfold byteOf? at h; split at h
  · cases h; exact ⟨_, hv.int_inv, rfl⟩
  · cases h

theorem bytesOf_inv : ∀ {l l' : List V} {bs : List UInt8}, bytesOf? l = some bs → LRel ρ l l' → ∃ ns : List Int, l' = ns.map (Value.int .u8) ∧ bs = ns.map fun n => UInt8.ofNat n.toNat
  | [], _, bs, h, g => by cases g; simp only [bytesOf?] at h; cases h; exact ⟨[], rfl, rfl⟩
  | v :: vs, _, bs, h, g => by
    cases g with
    | cons hv hvs =>
      simp only [bytesOf?] at h
      split at h
      · rename_i b hb
        split at h
        · rename_i l hl
          cases h
          obtain ⟨n, rfl, rfl⟩ := byteOf_inv hb hv
          obtain ⟨ns, rfl, rfl⟩ := bytesOf_inv hl hvs
          exact ⟨n :: ns, rfl, rfl⟩
        · cases h
      · cases h

theorem foldl_push : ∀ (ns : List Int) (s : ByteArray), ns.foldl (fun r n => r.push (UInt8.ofNat n.toNat)) s = ⟨s.data ++ (ns.map fun n => UInt8.ofNat n.toNat).toArray⟩
  | [], s => by simp
  | n :: ns, s => by
    rw [List.foldl_cons, foldl_push ns]
    congr 1
    apply Array.ext'
    simp [ByteArray.push]

theorem b2s_sound (h : Rel N w₀ ρ H w) {a a' r : V} {H' : Heap} (hb : b2s a H = some (r, H')) (ha : VRel ρ a a') : H' = H ∧ VRel ρ r r ∧ (Conv.bytesToString a').run P w = .ok r w := by
  unfold b2s at hb
  split at hb
  · cases hb
    obtain ⟨_, _, rfl⟩ := ha.snil_inv
    exact ⟨rfl, .string _, by simp [Conv.bytesToString]⟩
  · rename_i b o u len cap
    split at hb
    · rename_i l hl
      split at hb
      · rename_i bs hbs
        cases hb
        obtain ⟨L, co, ccap, ca, hL, rfl, ho, hlen, hcap, _, hca, _⟩ := ha.slc_inv
        obtain ⟨hn, l', hrel, hcell⟩ := h.cellsAt hl hL
        obtain ⟨ns, rfl, rfl⟩ := bytesOf_inv hbs hrel
        refine ⟨rfl, .string _, ?_⟩
        have hl2 : ns.length = len := by have := hrel.length; simp at this; omega
        have hrun : (loadCells ca len).run P w = .ok (ns.map (Value.int .u8)).toArray w := by
          rcases hca with rfl | q
          rotate_left
          · have h0 : len = 0 := by omega
            have : ns = [] := List.eq_nil_of_length_eq_zero (by omega)
            rw [this, h0]; rfl
          rcases ho with ho | ho
          · subst ho
            have := run_loadCells_at (P := P) (b := L.blk) (o := L.off + o) hcell
            simpa [hl2] using this
          · have h0 : len = 0 := by omega
            have : ns = [] := List.eq_nil_of_length_eq_zero (by omega)
            rw [this, h0]; rfl
        rw [run_bytesToString w _ len ccap ns hrun, foldl_push]
        simp
      · cases hb
    · cases hb
  · cases hb

/-! ### maps -/

theorem keyEq_one {fk : FK} {kt : TypeId} (hf : fkT P kt = some fk) {a b a' b' : V} {r : Bool} (h : keyEq (.one fk) a b = some r) (ha : VRel ρ a a') (hb : VRel ρ b b') (d : TypeDesc) (hd : P.underlying kt = some d) :
    Instr.sameNow d a' b' = some r := by
  simp only [keyEq] at h
  obtain ⟨rfl, rfl⟩ := eqK_flat h ha hb
  cases fk
  · have := fkT_b hf; rw [hd] at this; cases this
    cases a' <;> cases b' <;> simp only [eqK] at h <;> first | (cases h; done) | skip
    simpa [Instr.sameNow] using h
  · obtain ⟨k, this⟩ := fkT_i hf; rw [hd] at this; cases this
    cases a' <;> cases b' <;> simp only [eqK] at h <;> first | (cases h; done) | skip
    simpa [Instr.sameNow] using h
  · have := fkT_s hf; rw [hd] at this; cases this
    cases a' <;> cases b' <;> simp only [eqK] at h <;> first | (cases h; done) | skip
    simp only [Instr.sameNow, beq_toListBytes, toList_eq_iff]; exact h

theorem findNow_of {fk : FK} {kt : TypeId} (hf : fkT P kt = some fk) (d : TypeDesc) (hd : P.underlying kt = some d) {k k' : V} (hk : VRel ρ k k') : ∀ (es : List (V × V)) (E : List MapEntry) (i : Nat) (r : Option Nat),
    LRel ρ (es.map (·.1)) (E.map (·.key)) → findK (.one fk) k es = some r → Instr.findNow d k' E i = some (r.bind fun j => (E[j]?).map fun e => (i + j, e.val))
  | [], E, i, r, hr, h => by
    cases E with
    | nil => simp only [findK] at h; cases h; rfl
    | cons e E => have := hr.length; simp at this
  | x :: es, E, i, r, hr, h => by
    cases E with
    | nil => have := hr.length; simp at this
    | cons e E =>
      cases hr with
      | cons h1 h2 =>
        simp only [findK] at h
        split at h
        · rename_i hq; cases h
          simp [Instr.findNow, keyEq_one hf hq hk h1 d hd]
        · rename_i hq
          simp only [Instr.findNow, keyEq_one hf hq hk h1 d hd]
          split at h
          · rename_i j hj; cases h
            rw [findNow_of hf d hd hk es E (i + 1) (some j) h2 hj]
            simp [Nat.add_assoc, Nat.add_comm 1 j]
          · rename_i hj; cases h
            rw [findNow_of hf d hd hk es E (i + 1) none h2 hj]; rfl
          · cases h
        · cases h

theorem findAsking_of {ks : List FK} {kt : TypeId} (hf : flatS P kt = some ks) {k k' : V} (hk : VRel ρ k k') : ∀ (es : List (V × V)) (E : List MapEntry) (i : Nat) (r : Option Nat),
    LRel ρ (es.map (·.1)) (E.map (·.key)) → findK (.agg ks) k es = some r → ∀ w, (Instr.findAsking kt k' E i).run P w = .ok (r.bind fun j => (E[j]?).map fun e => (i + j, e.val)) w
  | [], E, i, r, hr, h => by
    intro w
    cases E with
    | nil => simp only [findK] at h; cases h; rfl
    | cons e E => have := hr.length; simp at this
  | x :: es, E, i, r, hr, h => by
    intro w
    cases E with
    | nil => have := hr.length; simp at this
    | cons e E =>
      cases hr with
      | cons h1 h2 =>
        simp only [findK] at h
        split at h
        · rename_i hq; cases h
          simp only [keyEq] at hq
          obtain ⟨A, B, _, _, hrun⟩ := eqAgg_run hf hq hk h1 w 9998
          have hrun' : (Op.equal kt k' e.key).run P w = .ok true w := hrun
          simp [Instr.findAsking, hrun']
        · rename_i hq
          simp only [keyEq] at hq
          obtain ⟨A, B, _, _, hrun⟩ := eqAgg_run hf hq hk h1 w 9998
          have hrun' : (Op.equal kt k' e.key).run P w = .ok false w := hrun
          simp only [Instr.findAsking, Sem.run_bind, hrun', Result.andThen_ok]
          simp only [Bool.false_eq_true, if_false]
          split at h
          · rename_i j hj; cases h
            rw [findAsking_of hf hk es E (i + 1) (some j) h2 hj w]
            simp [Nat.add_assoc, Nat.add_comm 1 j]
          · rename_i hj; cases h
            rw [findAsking_of hf hk es E (i + 1) none h2 hj w]; rfl
          · cases h
        · cases h

theorem findKey_of {kk : KK} {kt : TypeId} (hf : keyT P kt = some kk) {k k' : V} (hk : VRel ρ k k') (es : List (V × V)) (E : List MapEntry) (r : Option Nat)
    (hr : LRel ρ (es.map (·.1)) (E.map (·.key))) (h : findK kk k es = some r) (w : World) : (Instr.findKey kt k' E).run P w = .ok (r.bind fun j => (E[j]?).map fun e => (j, e.val)) w := by
  unfold keyT at hf
  split at hf
  · rename_i fk hfk
    cases hf
    have hd : ∃ d, P.underlying kt = some d := by unfold fkT at hfk; split at hfk <;> first | exact ⟨_, by assumption⟩ | cases hfk
    obtain ⟨d, hd⟩ := hd
    simp [Instr.findKey, run_underlying hd, findNow_of hfk d hd hk es E 0 r hr h]
  · split at hf
    · rename_i ks hks
      cases hf
      obtain ⟨fs, hu, _⟩ := flatS_of hks
      simp only [Instr.findKey, Sem.run_bind, run_underlying hu, Result.andThen_ok]
      cases E with
      | nil =>
        cases es with
        | nil => simp only [findK] at h; cases h; rfl
        | cons x es => have := hr.length; simp at this
      | cons e E =>
        have : Instr.findNow (.struct fs) k' (e :: E) 0 = none := by simp [Instr.findNow, Instr.sameNow]
        simp only [this]
        have := findAsking_of hks hk es (e :: E) 0 r hr h w
        simpa using this
    · cases hf

theorem forIn_ok {α : Type} (g : α → PUnit → Sem (ForInStep PUnit)) (w : World) : ∀ (fs : List α), (∀ f ∈ fs, (g f PUnit.unit).run P w = .ok (.yield PUnit.unit) w) → (forIn fs PUnit.unit g).run P w = .ok PUnit.unit w
  | [], _ => by simp
  | f :: fs, h => by
    simp only [List.forIn_cons, Sem.run_bind, h f (by simp), Result.andThen_ok]
    exact forIn_ok g w fs fun x hx => h x (by simp [hx])

theorem flatFs_field (A : Array V) : ∀ (fs : List Field) (n : Nat) (ks : List FK), flatFs P n fs = some ks → n + fs.length ≤ A.size →
    ∀ f ∈ fs, f.name ≠ "_" ∧ (∃ k, fkT P f.type = some k) ∧ f.offset < A.size
  | [], n, ks, _, _ => by simp
  | f :: fs, n, ks, hf, hl => by
    simp only [flatFs] at hf
    split at hf
    · rename_i k ks' hk hks
      split at hf
      · rename_i hc
        simp only [Bool.and_eq_true, bne_iff_ne, ne_eq, beq_iff_eq] at hc
        obtain ⟨hnm, hoff⟩ := hc
        intro x hx
        rcases List.mem_cons.1 hx with rfl | hx
        · exact ⟨hnm, ⟨k, hk⟩, by simp at hl; omega⟩
        · exact flatFs_field A fs (n + 1) ks' hks (by simp at hl; omega) x hx
      · cases hf
    · cases hf

theorem checkK_run {k : FK} {t : TypeId} (hk : fkT P t = some k) (em : Bool) (d : Nat) (v : V) (w : World) : (Instr.checkKey em (d + 1) t v).run P w = .ok () w := by
  have hd : ∃ dd, P.underlying t = some dd ∧ (dd = .bool ∨ (∃ q, dd = .int q) ∨ dd = .string) := by
    unfold fkT at hk; split at hk <;> first | exact ⟨_, by assumption, by simp⟩ | cases hk
  obtain ⟨dd, hd, hdd⟩ := hd
  rcases hdd with rfl | ⟨q, rfl⟩ | rfl <;> simp [Instr.checkKey, run_underlying hd]

theorem flatFs_length : ∀ (fs : List Field) (n : Nat) (ks : List FK), flatFs P n fs = some ks → ks.length = fs.length
  | [], n, ks, h => by simp only [flatFs] at h; cases h; rfl
  | f :: fs, n, ks, hf => by
    simp only [flatFs] at hf
    split at hf
    · rename_i k ks' hk hks
      split at hf
      · cases hf; simp [flatFs_length fs (n + 1) ks' hks]
      · cases hf
    · cases hf

theorem checkS_run {kt : TypeId} {ks : List FK} (hks : flatS P kt = some ks) {A : Array V} (hA : A.size = ks.length) (em : Bool) (d : Nat) (w : World) : (Instr.checkKey em (d + 1 + 1) kt (.agg A)).run P w = .ok () w := by
  obtain ⟨fs, hu, _, _, h3⟩ := flatS_of hks
  have hl : A.size = fs.size := by have := flatFs_length _ _ _ h3; simp at *; omega
  rw [Instr.checkKey]
  simp only [Sem.run_bind, run_underlying hu, Result.andThen_ok]
  rw [← Array.forIn_toList]
  rw [forIn_ok (P := P) _ w fs.toList ?_]
  · rfl
  · intro f hf
    obtain ⟨h1, ⟨k, h2⟩, h4⟩ := flatFs_field A fs.toList 0 ks h3 (by simp; omega) f hf
    have hp : (part f.type A f.offset).run P w = .ok A[f.offset] w := by simp [part, fkT_isAgg h2 w, h4]
    simp [h1, hp, checkK_run h2 em d]

theorem checkKey_of {kk : KK} {kt : TypeId} (hf : keyT P kt = some kk) {k k' : V} (hk : VRel ρ k k') (hfit : keyFits kk k = true) (em : Bool) (w : World) : (Instr.checkKey em 10000 kt k').run P w = .ok () w := by
  unfold keyT at hf
  split at hf
  · rename_i fk hfk; exact checkK_run hfk em 9999 k' w
  · split at hf
    · rename_i ks hks
      cases hf
      cases k <;> simp only [keyFits] at hfit <;> first | (cases hfit; done) | skip
      obtain ⟨A, rfl, hA⟩ := hk.agg_inv
      exact checkS_run hks (by have := hA.length; simp at *; omega) em 9998 w
    · cases hf

theorem findK_lt (kk : KK) (k : V) : ∀ (es : List (V × V)) (i : Nat), findK kk k es = some (some i) → i < es.length
  | [], i, h => by simp [findK] at h
  | e :: es, i, h => by
    simp only [findK] at h
    split at h
    · cases h; simp
    · split at h
      · rename_i j hj; cases h; have := findK_lt kk k es j hj; simp; omega
      · cases h
      · cases h
    · cases h

/-- the entries of a map, on the real side -/
theorem Rel.map (h : Rel N w₀ ρ H w) {b : Nat} {rw_ : Bool} {es : List (V × V)} (hb : H.get b = some (.map rw_ es)) {L : Loc} (hL : ρ b = some L) :
    ∃ E clk, w.heap[L.blk]? = some (.map E clk) ∧ (rw_ = true → N ≤ L.blk ∧ Born E clk) ∧ L.off = 0 ∧ LRel ρ (es.map (·.1)) (E.toList.map (·.key)) ∧ LRel ρ (es.map (·.2)) (E.toList.map (·.val)) := by
  obtain ⟨K, hK, h0, E, clk, h1, h2, h3, h4⟩ := h.blk b _ hb
  rw [hL] at hK; cases hK
  exact ⟨E, clk, h1, h2, h0, h3, h4⟩

theorem run_getObj_map {r : Nat} {E : Array MapEntry} {clk : Nat} (h : w.heap[r]? = some (.map E clk)) : (getObj r).run P w = .ok (.map E clk) w := by
  simp [getObj, Sem.run, h]

theorem entries_run (h : Rel N w₀ ρ H w) {m m' : V} {es : List (V × V)} (he : entries H m = some es) (hm : VRel ρ m m') :
    (m' = .map none ∧ es = []) ∨ ∃ r E clk, m' = .map (some r) ∧ w.heap[r]? = some (.map E clk) ∧ LRel ρ (es.map (·.1)) (E.toList.map (·.key)) ∧ LRel ρ (es.map (·.2)) (E.toList.map (·.val)) := by
  unfold entries at he
  split at he
  · cases he; cases hm; exact .inl ⟨rfl, rfl⟩
  · split at he
    · rename_i b rw_ es2 hb
      cases he
      cases hm
      rename_i L hL
      obtain ⟨E, clk, h1, _, _, h2, h3⟩ := h.map hb hL
      exact .inr ⟨_, E, clk, rfl, h1, h2, h3⟩
    · cases he
  · cases he

theorem lookup_sound (h : Rel N w₀ ρ H w) {kk : KK} {zero : V} {ok : Bool} {m k m' k' r : V} {H' : Heap} {t kt et : TypeId} (hu : P.underlying t = some (.map kt et)) (hz : zeroV P et = some zero) (hf : keyT P kt = some kk)
    (hl : lookup kk zero ok m k H = some (r, H')) (hm : VRel ρ m m') (hk : VRel ρ k k') : H' = H ∧ ∃ r', VRel ρ r r' ∧ (Instr.lookup t m' k' ok).run P w = .ok r' w := by
  unfold lookup at hl
  split at hl
  · rename_i hcond
    simp only [Bool.and_eq_true] at hcond
    split at hl
    · rename_i es hes
      have hck := fun em => checkKey_of hf hk hcond.1 em w
      rcases entries_run h hes hm with ⟨rfl, rfl⟩ | ⟨q, E, clk, rfl, hq, h1, h2⟩
      · simp only [findK] at hl
        cases hl
        have hfk := findKey_of hf hk [] [] none .nil (by simp [findK]) w
        refine ⟨rfl, if ok then .tuple #[zero, .bool false] else zero, ?_, ?_⟩
        · split
          · exact .tuple' (.cons (flatV_rel hcond.2) (.cons (.bool _) .nil))
          · exact flatV_rel hcond.2
        · simp [Instr.lookup, run_underlying hu, hck, hfk, zeroV_run hz w]
      · split at hl
        · rename_i i hi
          split at hl
          · rename_i e he
            cases hl
            have hfk := findKey_of hf hk es E.toList (some i) h1 hi w
            have hlt := findK_lt kk k es i hi
            have hlE : i < E.toList.length := by have := h1.length; simp at this; simp; omega
            obtain ⟨v', hv', hrel⟩ := h2.get i e.2 (by simp [he])
            have hv2 : E.toList[i].val = v' := by
              rw [List.getElem?_map, List.getElem?_eq_getElem hlE] at hv'
              simpa using hv'
            refine ⟨rfl, if ok then .tuple #[v', .bool true] else v', ?_, ?_⟩
            · split
              · exact .tuple' (.cons hrel (.cons (.bool _) .nil))
              · exact hrel
            · have : (some i).bind (fun j => (E.toList[j]?).map fun e => (j, e.val)) = some (i, v') := by
                rw [← hv2, Option.bind_some, List.getElem?_eq_getElem hlE]; rfl
              rw [this] at hfk
              simp [Instr.lookup, run_underlying hu, run_getObj_map hq, hck, hfk]
          · cases hl
        · rename_i hi
          cases hl
          have hfk := findKey_of hf hk es E.toList none h1 hi w
          refine ⟨rfl, if ok then .tuple #[zero, .bool false] else zero, ?_, ?_⟩
          · split
            · exact .tuple' (.cons (flatV_rel hcond.2) (.cons (.bool _) .nil))
            · exact flatV_rel hcond.2
          · simp [Instr.lookup, run_underlying hu, run_getObj_map hq, hck, hfk, zeroV_run hz w]
        · cases hl
    · cases hl
  · cases hl

theorem lenM_sound (h : Rel N w₀ ρ H w) {m m' r : V} {H' : Heap} {t ty kt et : TypeId} (hu : P.underlying t = some (.map kt et)) (hl : lenM m H = some (r, H')) (hm : VRel ρ m m') :
    H' = H ∧ VRel ρ r r ∧ (Builtin.len_ #[t] ty #[m']).run P w = .ok r w := by
  unfold lenM at hl
  split at hl
  · rename_i es hes
    cases hl
    refine ⟨rfl, .int _ _, ?_⟩
    rcases entries_run h hes hm with ⟨rfl, rfl⟩ | ⟨q, E, clk, rfl, hq, h1, h2⟩
    · simp [Builtin.len_, run_underlying hu, goInt]
    · have : es.length = E.size := by have := h1.length; simpa using this
      simp [Builtin.len_, run_underlying hu, run_getObj_map hq, goInt, this]
  · cases hl

theorem ld1_sound (h : Rel N w₀ ρ H w) {p p' r : V} {H' : Heap} {t : TypeId} (ht : tk P t = some .one) (hl : ld1 p H = some (r, H')) (hp : VRel ρ p p') :
    H' = H ∧ ∃ r', VRel ρ r r' ∧ (Instr.loadAt t p').run P w = .ok r' w := by
  unfold ld1 at hl
  split at hl
  · rename_i b o
    split at hl
    · rename_i v hv
      cases hl
      obtain ⟨L, hL, rfl⟩ := hp.ptr_inv
      obtain ⟨v', hv', hrel⟩ := h.cell hv hL
      exact ⟨rfl, v', hrel, by simp [Instr.loadAt, Instr.sureAddr, loadVar, (tk_one ht).1 w, hv']⟩
    · cases hl
  · cases hl

theorem ldn_sound (h : Rel N w₀ ρ H w) {p p' r : V} {H' : Heap} {t : TypeId} {n : Nat} (ht : tk P t = some (.agg n)) (hl : ldn n p H = some (r, H')) (hp : VRel ρ p p') :
    H' = H ∧ ∃ r', VRel ρ r r' ∧ (Instr.loadAt t p').run P w = .ok r' w := by
  unfold ldn at hl
  split at hl
  · rename_i b o
    split at hl
    · rename_i l hc
      cases hl
      obtain ⟨L, hL, rfl⟩ := hp.ptr_inv
      obtain ⟨hn, l', hrel, hcell⟩ := h.cellsAt hc hL
      have hl2 : l'.length = n := by rw [← hrel.length]; exact hn
      have hrun := run_loadCells_at (P := P) hcell
      rw [hl2] at hrun
      exact ⟨rfl, .agg l'.toArray, .agg' (by simpa using hrel), by simp [Instr.loadAt, Instr.sureAddr, loadVar, (tk_agg ht).1 w, (tk_agg ht).2 w, hrun]⟩
    · cases hl
  · cases hl

theorem fail_ne {α : Type} {H H' : Heap} {r : α} (h : (fail : M α) H = some (r, H')) : False := by simp [fail] at h

theorem read_sound (h : Rel N w₀ ρ H w) {e c : Operand → V} (hr : ∀ z, VRel ρ (e z) (c z)) (o : Oper) {r : V} {H' : Heap} (hl : readM P e o.op H = some (r, H')) :
    H' = H ∧ ∃ r', VRel ρ r r' ∧ (execOp c o).run P w = .ok (.value r') w := by
  obtain ⟨dst, op, ty, pos, after, guard⟩ := o
  simp only at hl
  cases op <;> simp only [readM] at hl <;> first | exact (fail_ne hl).elim | skip
  case load t a =>
    cases hk : tk P t with
    | none => simp only [hk] at hl; exact (fail_ne hl).elim
    | some k =>
      cases k with
      | one =>
        simp only [hk] at hl
        obtain ⟨h1, r', h2, h3⟩ := ld1_sound h hk hl (hr a)
        exact ⟨h1, r', h2, by simp [execOp, h3]⟩
      | agg n =>
        simp only [hk] at hl
        obtain ⟨h1, r', h2, h3⟩ := ldn_sound h hk hl (hr a)
        exact ⟨h1, r', h2, by simp [execOp, h3]⟩
  case convert src dst x =>
    generalize hs : P.underlying src = s at hl
    generalize hd : P.underlying dst = d at hl
    split at hl
    all_goals first | exact (fail_ne hl).elim | skip
    rename_i el
    generalize hel : P.underlying el = ed at hl
    split at hl
    all_goals first | exact (fail_ne hl).elim | skip
    obtain ⟨h1, h2, h3⟩ := b2s_sound (P := P) h hl (hr x)
    refine ⟨h1, r, h2, ?_⟩
    have : (convert src dst (c x)).run P w = .ok r w := by
      unfold convert
      simp only [Sem.run_bind, run_underlying hs, Result.andThen_ok, run_underlying hd]
      unfold b2s at hl
      have hx := hr x
      split at hl
      · rename_i q; rw [q] at hx; obtain ⟨_, _, hc⟩ := hx.snil_inv; rw [hc] at h3 ⊢; simp [run_underlying hel, h3]
      · rename_i q; rw [q] at hx; obtain ⟨L, co, ccap, ca, hL, hc, _⟩ := hx.slc_inv; rw [hc] at h3 ⊢; simp [run_underlying hel, h3]
      · cases hl
    simp [execOp, this]
  case lookup t m k ok =>
    generalize hu : P.underlying t = d at hl
    split at hl
    all_goals first | exact (fail_ne hl).elim | skip
    rename_i kt et
    generalize hz : zeroV P et = z at hl
    generalize hkk : keyT P kt = kk at hl
    split at hl
    all_goals first | exact (fail_ne hl).elim | skip
    obtain ⟨h1, r', h2, h3⟩ := lookup_sound h hu hz hkk hl (hr m) (hr k)
    exact ⟨h1, r', h2, by simp [execOp, h3]⟩
  case call cl =>
    obtain ⟨callee, args, argTypes⟩ := cl
    simp only at hl
    cases callee <;> simp only at hl <;> first | exact (fail_ne hl).elim | skip
    rename_i b
    obtain ⟨args⟩ := args
    obtain ⟨ts⟩ := argTypes
    simp only [readB] at hl
    split at hl
    all_goals first | exact (fail_ne hl).elim | skip
    rename_i x t
    generalize hu : P.underlying t = d at hl
    split at hl
    all_goals first | exact (fail_ne hl).elim | skip
    obtain ⟨h1, h2, h3⟩ := lenM_sound (ty := ty) h hu hl (hr x)
    exact ⟨h1, r, h2, by simp [execOp, resolve, invoke, builtin, h3]⟩

end Go.AM
