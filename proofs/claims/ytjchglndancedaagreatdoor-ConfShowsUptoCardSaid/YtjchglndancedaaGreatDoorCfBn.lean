import Derived.Test.YtjchglndancedaaGreatDoorCfBl
set_option linter.all false
/- conf: builders in the abstract machine: what the four functions do, zq -/
set_option maxHeartbeats 4000000
namespace Go.AM.Cap
open Go.AM Go.Proofs Go.RowKit
section
variable {N:Nat} {w₀:World} {ρ:Ren} {H:Heap} {w:World}
theorem zb3m (h:Rel N w₀ ρ H w) {b:Nat} {used:Bool} {n:Nat} {L:Loc} (hb:H.get b=some (.bld 74 used none n)) (hL:ρ b=some L):L.off=0∧N≤L.blk∧n=0∧Bb N w L.blk (.slice none 0 0) 0 []:=by
 obtain⟨M,hM,h0,h1,v,h2,h3⟩:=h.blk b _ hb
 rw[hL] at hM;cases hM
 rcases h3 with⟨_,hn,rfl⟩ | ⟨g,K,h4,_⟩
 ·refine⟨h0,h1,hn,?_,World.ownsRow_nil _ _ _ _,by simp[Value.ownBlock],h.big⟩
  cases used
  ·exact .inl h2
  ·exact .inr h2
 ·cases h4
theorem zbo9 (h:Rel N w₀ ρ H w) {b g:Nat} {used:Bool} {l:List UInt8} {L:Loc} (hb:H.get b=some (.bld 74 used (some g) l.length)) (hg:H.get g=some (.buf 5 l)) (hL:ρ b=some L) :
  ∃ K,ρ g=some K∧L.off=0∧N≤L.blk∧N≤K.blk∧K.blk≠L.blk∧Bb N w L.blk (.slice (some ⟨K.blk,0,none⟩) l.length K.size) l.length (Lib.byteCells l):=by
 obtain⟨M,hM,h0,h1,v,h2,h3⟩:=h.blk b _ hb
 rw[hL] at hM;cases hM
 obtain⟨K,hK,k0,k1,C,k2,k3,k4,k5⟩:=h.blk g _ hg
 rcases h3 with⟨q,_⟩ | ⟨g',K',h4,h5,h6,h7,rfl⟩
 ·cases q
 cases h4
 rw[hK] at h5;cases h5
 have hne:K.blk≠L.blk:=h.inj g b _ _ K L hg hb (fun e=>by subst e;rw[hb] at hg;cases hg) hK hL
 refine⟨K,hK,h0,h1,k1,hne,?_,⟨by simp[Lib.byteCells],.inr ⟨K.blk,K.size,C,rfl,k1,k2,h6,h7,by omega,by simpa[Lib.byteCells] using k5⟩⟩,by simpa[Value.ownBlock] using hne,h.big⟩
 cases used
 ·exact .inl h2
 ·exact .inr h2
theorem zbvy {w':World} {b:Nat} {x:Blk} {L:Loc} {Hk:Heap} {g' n':Nat} {cur:Array V} {l:List UInt8} {ob:Option Nat} {T E:TypeId} (h:Rel N w₀ ρ H w) (hb:H.get b=some x) (hL:ρ b=some L) (hL0:L.off=0) (hN:N≤L.blk)
  (hkn:Hk.next=H.next) (hk:∀ c y,Hk.get c=some y→H.get c=some y∧∀ M,ρ c=some M→some M.blk≠ob) (hkb:Hk.get b=some x)
  (hos:w'.os=w.os) (htp:w'.tape=w.tape) (hou:w'.output=w.output) (hsz:w.heap.size≤w'.heap.size) (hold:∀ k,k < w.heap.size→k≠L.blk→some k≠ob→w'.heap[k]? = w.heap[k]?)
  (hob:∀ k,ob=some k→N≤k∧∃ c y M,H.get c=some y∧ρ c=some M∧M.blk=k) (hg':ob=some g'∨w.heap.size≤g') (hgL:g'≠L.blk)
  (hcb:w'.heap[L.blk]? = some (.cells #[.pointer (some ⟨L.blk,0,none⟩),.slice (some ⟨g',0,none⟩) n' cur.size] T (0,0))) (hcg:w'.heap[g']? = some (.cells cur E (0,0))) (hn:n'≤cur.size) (hcm:cur.size≤maxLen) (hl:l.length≤cur.size)
  (ht:cur.toList.take l.length=l.map fun b => .int .u8 b.toNat) :
  Rel N w₀ (ρ.add H.next ⟨g',0,cur.size⟩) ((Hk.push (some (.buf E l))).set b (some (.bld T true (some H.next) n'))) w'∧Ext ρ H w (ρ.add H.next ⟨g',0,cur.size⟩) ((Hk.push (some (.buf E l))).set b (some (.bld T true (some H.next) n'))) w':=by
 have hno:ρ H.next=none:=h.dom _ (Nat.le_refl _)
 have hle:=Ren.le_add (⟨g',0,cur.size⟩:Loc) hno
 have hblt:=Heap.get_lt hb
 have hbig:=h.big
 have hNg:N≤g':=by
  rcases hg' with q | q
  ·exact (hob _ q).1
  ·omega
 have hLs:=h.lt hb hL
 have get':∀ c,((Hk.push (some (.buf E l))).set b (some (.bld T true (some H.next) n'))).get c=if c=b then some (.bld T true (some H.next) n') else if c=H.next then some (.buf E l) else Hk.get c:=fun c=>by
  rw[Heap.get_set _ _ _ _ (by simp;omega),Heap.get_push,hkn]
 have nx:((Hk.push (some (.buf E l))).set b (some (.bld T true (some H.next) n'))).next=H.next + 1:=by simp[hkn]
 have add_ne:∀ c,c≠H.next→(ρ.add H.next ⟨g',0,cur.size⟩) c=ρ c:=fun c hc=>by unfold Ren.add;rw[if_neg hc]
 have add_eq:(ρ.add H.next ⟨g',0,cur.size⟩) H.next=some ⟨g',0,cur.size⟩:=by unfold Ren.add;rw[if_pos rfl]
 have hbne:b≠H.next:=by omega
 have live:∀ c y M,c≠b→Hk.get c=some y→ρ c=some M→H.get c=some y∧M.blk < w.heap.size∧M.blk≠L.blk∧some M.blk≠ob∧M.blk≠g':=fun c y M hc hy hM=>by
  obtain⟨q1,q2⟩:=hk c y hy
  have q3:=h.lt q1 hM
  have q4:=q2 M hM
  refine⟨q1,q3,h.inj c b y x M L q1 hb hc hM hL,q4,fun e=>?_⟩
  rcases hg' with q | q
  ·exact q4 (by rw[q,e])
  ·omega
 have cne:∀ c y,Hk.get c=some y→c≠H.next:=fun c y hy e=>by
  have:=Heap.get_lt hy
  rw[hkn] at this;omega
 refine⟨⟨?_,by omega,fun c hc=>?_,fun c hc=>?_,fun c y hy=>?_,fun c c' y y' M M' hy hy' hne hM hM'=>?_⟩,hle,fun c hc=>add_ne c (by omega),by rw[nx];omega,⟨hsz,fun c hc hn=>?_⟩,fun c y M hy hM=>?_⟩
 ·refine h.below.trans ⟨hos,htp,hou,hsz,fun k hk=>hold k (by omega) (by omega) fun e=>?_⟩
  have:=(hob k e.symm).1
  omega
 ·rw[nx] at hc
  rw[add_ne c (by omega)]
  exact h.dom c (by omega)
 ·obtain⟨s,hs⟩:=h.base c hc
  exact⟨s,hle _ _ hs⟩
 ·rw[get'] at hy
  by_cases e1:c=b
  ·rw[if_pos e1] at hy
   cases hy;subst e1
   exact⟨L,hle _ _ hL,hL0,hN,_,hcb,.inr ⟨H.next,_,rfl,add_eq,hn,hcm,rfl⟩⟩
  rw[if_neg e1] at hy
  by_cases e2:c=H.next
  ·rw[if_pos e2] at hy
   cases hy;subst e2
   exact⟨_,add_eq,rfl,hNg,cur,hcg,rfl,hl,ht⟩
  rw[if_neg e2] at hy
  obtain⟨M,hM,hr⟩:=h.blk c y (hk c y hy).1
  obtain⟨q1,q2,q3,q4,q5⟩:=live c y M e1 hy hM
  exact⟨M,hle _ _ hM,hr.mono hle (hold _ q2 q3 q4)⟩
 ·rw[get'] at hy hy'
  have split3:∀ {c y M},(if c=b then some (Blk.bld T true (some H.next) n') else if c=H.next then some (.buf E l) else Hk.get c)=some y→(ρ.add H.next ⟨g',0,cur.size⟩) c=some M →
    (c=b∧M=L)∨(c=H.next∧M.blk=g')∨(c≠b∧c≠H.next∧Hk.get c=some y∧ρ c=some M):=fun {c y M} hy hM=>by
   by_cases e1:c=b
   ·subst e1;rw[add_ne _ hbne,hL] at hM;cases hM;exact .inl ⟨rfl,rfl⟩
   rw[if_neg e1] at hy
   by_cases e2:c=H.next
   ·subst e2;rw[add_eq] at hM;cases hM;exact .inr (.inl ⟨rfl,rfl⟩)
   rw[if_neg e2] at hy
   rw[add_ne _ e2] at hM
   exact .inr (.inr ⟨e1,e2,hy,hM⟩)
  rcases split3 hy hM with⟨a1,a2⟩ | ⟨a1,a2⟩ | ⟨a1,a2,a3,a4⟩ <;> rcases split3 hy' hM' with⟨b1,b2⟩ | ⟨b1,b2⟩ | ⟨b1,b2,b3,b4⟩
  ·exact absurd (a1.trans b1.symm) hne
  ·rw[a2,b2];exact fun e=>hgL e.symm
  ·obtain⟨_,_,q3,_,_⟩:=live _ _ _ b1 b3 b4
   rw[a2];exact fun e=>q3 e.symm
  ·rw[a2,b2];exact hgL
  ·exact absurd (a1.trans b1.symm) hne
  ·obtain⟨_,_,_,_,q5⟩:=live _ _ _ b1 b3 b4
   rw[a2];exact fun e=>q5 e.symm
  ·obtain⟨_,_,q3,_,_⟩:=live _ _ _ a1 a3 a4
   rw[b2];exact q3
  ·obtain⟨_,_,_,_,q5⟩:=live _ _ _ a1 a3 a4
   rw[b2];exact q5
  ·exact h.inj c c' y y' M M' (hk c y a3).1 (hk c' y' b3).1 hne a4 b4
 ·refine hold c hc (fun e=>hn b x L hb hL e.symm) fun e=>?_
  obtain⟨_,c0,y0,M0,q1,q2,q3⟩:=hob c e.symm
  exact hn c0 y0 M0 q1 q2 q3
 ·rw[get'] at hy
  by_cases e1:c=b
  ·subst e1;rw[add_ne _ hbne,hL] at hM;cases hM
   exact .inr ⟨c,x,L,hb,hL,rfl⟩
  rw[if_neg e1] at hy
  by_cases e2:c=H.next
  ·subst e2;rw[add_eq] at hM;cases hM
   rcases hg' with q | q
   ·obtain⟨_,c0,y0,M0,q1,q2,q3⟩:=hob _ q
    exact .inr ⟨c0,y0,M0,q1,q2,q3⟩
   ·exact .inl q
  rw[if_neg e2] at hy
  rw[add_ne _ e2] at hM
  exact .inr ⟨c,y,M,(hk c y hy).1,hM,rfl⟩
end
end Go.AM.Cap

/- conf: builders: WriteString, WriteByte, Len, String are zq -/
set_option maxHeartbeats 4000000
namespace Go.AM.Cap
open Go.AM Go.Proofs Go.RowKit
def addM (b:Nat) (x:List UInt8) (H:Heap):Option Heap:=match H.get b with
 | some (.bld t _ none n)=>if t=74∧n=0∧x≠[]∧x.length≤10000000000000 then some ((H.push (some (.buf 5 x))).set b (some (.bld t true (some H.next) x.length))) else none
 | some (.bld t _ (some g) n)=>match H.get g with
  | some (.buf e l)=>if t=74∧e=5∧l.length=n∧n≠0∧n + x.length≤10000000000000 then some (((H.set g none).push (some (.buf 5 (l ++ x)))).set b (some (.bld t true (some H.next) (n + x.length)))) else none
  | _=>none
 | _=>none
def zku (args:List V):M V:=fun H=>match args with
 | [.pointer (some ⟨b,0,none⟩),.string s]=>match addM b s.data.toList H with
  | some H'=>some (.tuple #[.int .i64 s.size,.nilIface],H')
  | none=>none
 | _=>none
def zgq (args:List V):M V:=fun H=>match args with
 | [.pointer (some ⟨b,0,none⟩),.int .u8 c]=>if 0≤c∧c < 256 then (match addM b [UInt8.ofNat c.toNat] H with
  | some H'=>some (.nilIface,H')
  | none=>none) else none
 | _=>none
def z3u (args:List V):M V:=fun H=>match args with
 | [.pointer (some ⟨b,0,none⟩)]=>match H.get b with
  | some (.bld t _ (some g) n)=>match H.get g with
   | some (.buf e l)=>if t=74∧e=5∧l.length=n then some (.int .i64 n,H) else none
   | _=>none
  | _=>none
 | _=>none
def z3v (args:List V):M V:=fun H=>match args with
 | [.pointer (some ⟨b,0,none⟩)]=>match H.get b with
  | some (.bld t _ (some g) n)=>match H.get g with
   | some (.buf e l)=>if t=74∧e=5∧l.length=n∧l≠[]∧n≤10000000000000 then some (.string ⟨l.toArray⟩,H.set g none) else none
   | _=>none
  | _=>none
 | _=>none
section
variable {N:Nat} {w₀:World} {ρ:Ren} {H:Heap} {w:World}
theorem zbsn (h:Rel N w₀ ρ H w) {b:Nat} {x:List UInt8} {H':Heap} {L:Loc} (hadd:addM b x H=some H') (hL:ρ b=some L) :
  L.off=0∧∃ v n cs,Bb N w L.blk v n cs∧n + x.length≤10000000000000∧∀ w' v',Wrote N w w' L.blk v v' (n + x.length) (cs ++ Lib.byteCells x)→∃ ρ',Rel N w₀ ρ' H' w'∧Ext ρ H w ρ' H' w':=by
 unfold addM at hadd
 split at hadd
 ·rename_i t used n hb
  split at hadd
  ·rename_i hc
   obtain⟨rfl,rfl,hx,hlen⟩:=hc
   cases hadd
   obtain⟨h0,hN,_,hB⟩:=zb3m h hb hL
   refine⟨h0,_,_,_,hB,by omega,fun w' v' hw=>?_⟩
   have hlt:=h.lt hb hL
   rcases hw.own.2 with⟨_,q⟩ | ⟨g',cap,cur,rfl,k1,k2,k3,k4,k5,k6⟩
   ·exfalso
    have:x.length≠0:=by simpa using hx
    omega
   have hg':w.heap.size≤g':=by
    rcases hw.new g' rfl with q | q
    ·cases q
    ·exact q
   have hcz:cur.size=cap:=by omega
   have hblk:=hw.blk
   rw[← hcz] at hblk
   exact⟨_,zbvy (Hk:=H) (ob:=none) h hb hL h0 hN rfl (fun c y hy=>⟨hy,fun M _=>by simp⟩) hb hw.turned.os hw.turned.tape hw.turned.output hw.turned.size (fun k a1 a2 a3=>hw.turned.hold k a1 a2 (by simp[Value.ownBlock])) (fun k hk=>by cases hk) (.inr hg') (by omega)
    (by simpa using hblk) k2 (by omega) (by omega) (by omega) (by simpa[Lib.byteCells] using k6)⟩
  ·cases hadd
 ·rename_i t used g n hb
  split at hadd
  ·rename_i e l hg
   split at hadd
   ·rename_i hc
    obtain⟨rfl,rfl,rfl,hne,hlen⟩:=hc
    cases hadd
    obtain⟨K,hK,h0,hN,hNK,hKL,hB⟩:=zbo9 h hb hg hL
    refine⟨h0,_,_,_,hB,by omega,fun w' v' hw=>?_⟩
    have hlt:=h.lt hb hL
    have hgb:g≠b:=fun e=>by subst e;rw[hb] at hg;cases hg
    rcases hw.own.2 with⟨_,q⟩ | ⟨g',cap,cur,rfl,k1,k2,k3,k4,k5,k6⟩
    ·omega
    have hg':some K.blk=some g'∨w.heap.size≤g':=hw.new g' rfl
    have hcz:cur.size=cap:=by omega
    have hblk:=hw.blk
    rw[← hcz] at hblk
    have hgl:=Heap.get_lt hg
    exact⟨_,zbvy (Hk:=H.set g none) (ob:=some K.blk) h hb hL h0 hN (by simp) (fun c y hy=>by
      rw[Heap.get_set H g _ _ hgl] at hy
      split at hy
      ·cases hy
      ·rename_i hcg
       exact⟨hy,fun M hM e=>h.inj c g y _ M K hy hg hcg hM hK (by simpa using e)⟩) (by rw[Heap.get_set_ne _ _ _ (Ne.symm hgb)];exact hb) hw.turned.os hw.turned.tape hw.turned.output hw.turned.size (fun k a1 a2 a3=>hw.turned.hold k a1 a2 a3)
     (fun k hk=>by cases hk;exact⟨hNK,g,_,K,hg,hK,rfl⟩) hg' (by
      rcases hg' with q | q
      ·injection q with q;omega
      ·omega) (by simpa using hblk) k2 (by omega) (by omega) (by rw[List.length_append];omega) (by simpa[Lib.byteCells] using k6)⟩
   ·cases hadd
  ·cases hadd
 ·cases hadd
theorem zbx3 (h:Rel N w₀ ρ H w) {c:Nat} {w':World} (hc:N≤c) (hfree:∀ b x M,H.get b=some x→ρ b=some M→M.blk≠c) (hos:w'.os=w.os) (htape:w'.tape=w.tape) (hout:w'.output=w.output) (hsz:w'.heap.size=w.heap.size) (hold:∀ k,k≠c→w'.heap[k]? = w.heap[k]?):Rel N w₀ ρ H w' :=
 ⟨h.below.trans ⟨hos,htape,hout,by omega,fun k hk=>hold k (by omega)⟩,by rw[hsz];exact h.big,h.dom,h.base,fun b x hx=>by
  obtain⟨L,hL,hr⟩:=h.blk b x hx
  exact⟨L,hL,hr.mono (Ren.le.refl _) (hold _ (hfree b x L hx hL))⟩,h.inj⟩
theorem zbvz {b:Nat} {args':List V} {ρ:Ren} (ha:LRel ρ [.pointer (some ⟨b,0,none⟩)] args'):∃ L:Loc,ρ b=some L∧args'=[.pointer (some ⟨L.blk,L.off + 0,none⟩)]:=by
 cases ha with
 | cons h1 h2=>cases h2;cases h1;rename_i L hL;exact⟨L,hL,rfl⟩
end
theorem known_wstr:zq Tryz.prog zb5 zku:=by
 refine⟨by kernel_rfl,?_⟩
 intro N w₀ ρ H w args args' r H' hG hR ha hl
 unfold zku at hl
 split at hl
 ·rename_i b s
  split at hl
  ·rename_i H2 hadd
   cases hl
   cases ha with
   | cons h1 h2=>cases h2 with
    | cons h2 h3 =>
     cases h3;cases h2;cases h1
     rename_i L hL
     obtain⟨h0,v,n,cs,hB,hlen,hfin⟩:=zbsn hR hadd hL
     have hs:s.data.toList.length=s.size:=by rw[Array.length_toList];rfl
     rw[hs] at hlen hfin
     have:L.off + 0=0:=by omega
     rw[this]
     refine (zb51 hB s (by omega)).mono fun e w' ⟨he,v',hw⟩=>?_
     obtain⟨ρ',g1,g2⟩:=hfin w' v' hw
     exact⟨_,he,ρ',VRel.tuple' (.cons (.int _ _) (.cons .nilIface .nil)),g1,g2⟩
  ·cases hl
 ·cases hl
theorem known_wbyte:zq Tryz.prog zcb zgq:=by
 refine⟨by kernel_rfl,?_⟩
 intro N w₀ ρ H w args args' r H' hG hR ha hl
 unfold zgq at hl
 split at hl
 ·rename_i b c
  split at hl
  ·rename_i hc
   split at hl
   ·rename_i H2 hadd
    cases hl
    cases ha with
    | cons h1 h2=>cases h2 with
     | cons h2 h3 =>
      cases h3;cases h2;cases h1
      rename_i L hL
      obtain⟨h0,v,n,cs,hB,hlen,hfin⟩:=zbsn hR hadd hL
      have hcc:Lib.byteCells [UInt8.ofNat c.toNat]=[.int .u8 c]:=by
       have:((UInt8.ofNat c.toNat).toNat:Int)=c:=by
        show ((c.toNat % 256:Nat):Int)=c
        omega
       simp only[Lib.byteCells,List.map_cons,List.map_nil,this]
      rw[hcc] at hfin
      have:L.off + 0=0:=by omega
      rw[this]
      refine (zb52 hB c (by have:[UInt8.ofNat c.toNat].length=1:=rfl;omega)).mono fun e w' ⟨he,v',hw⟩=>?_
      obtain⟨ρ',g1,g2⟩:=hfin w' v' hw
      exact⟨_,he,ρ',.nilIface,g1,g2⟩
   ·cases hl
  ·cases hl
 ·cases hl
theorem known_blen:zq Tryz.prog zgf z3u:=by
 refine⟨by kernel_rfl,?_⟩
 intro N w₀ ρ H w args args' r H' hG hR ha hl
 unfold z3u at hl
 split at hl
 ·rename_i b
  split at hl
  ·rename_i t used g n hb
   split at hl
   ·rename_i e l hg
    split at hl
    ·rename_i hc
     obtain⟨rfl,rfl,rfl⟩:=hc
     cases hl
     obtain⟨L,hL,rfl⟩:=zbvz ha
     obtain⟨K,hK,h0,hN,hNK,hKL,hB⟩:=zbo9 hR hb hg hL
     have:L.off + 0=0:=by omega
     rw[this]
     refine (zb3k hB).mono fun e w' ⟨he,hw⟩=>?_
     subst hw
     exact⟨_,he,ρ,.int _ _,hR,.refl _ _ _⟩
    ·cases hl
   ·cases hl
  ·cases hl
 ·cases hl
theorem known_bstr:zq Tryz.prog zet z3v:=by
 refine⟨by kernel_rfl,?_⟩
 intro N w₀ ρ H w args args' r H' hG hR ha hl
 unfold z3v at hl
 split at hl
 ·rename_i b
  split at hl
  ·rename_i t used g n hb
   split at hl
   ·rename_i e l hg
    split at hl
    ·rename_i hc
     obtain⟨rfl,rfl,rfl,hne,hlen⟩:=hc
     cases hl
     obtain⟨L,hL,rfl⟩:=zbvz ha
     obtain⟨K,hK,h0,hN,hNK,hKL,hB⟩:=zbo9 hR hb hg hL
     have:L.off + 0=0:=by omega
     rw[this]
     have hkill:=hR.kill hg
     have hext:=zbhv (ρ:=ρ) (w:=w) hg
     have hnb:∀ c y M,(H.set g none).get c=some y→ρ c=some M→H.get c=some y∧M.blk≠K.blk:=fun c y M h1 h2=>by
      rw[Heap.get_set H g _ _ (Heap.get_lt hg)] at h1
      split at h1
      ·cases h1
      ·rename_i hcg
       exact⟨h1,hR.inj c g y _ M K h1 hg hcg h2 hK⟩
     refine (zb3l hB hne (by omega)).mono fun e w' ⟨he,m1,m2,m3,m4,m5⟩=>?_
     refine⟨_,he,ρ,.string _,zbx3 hkill hNK (fun c y M h1 h2=>(hnb c y M h1 h2).2) m1 m2 m3 m4 m5,⟨.refl _,fun _ _=>rfl,by rw[Heap.next_set];exact Nat.le_refl _,⟨by rw[m4];exact Nat.le_refl _,fun c hc hn=>m5 c fun e=>hn g _ K hg hK e.symm⟩,fun b' y M h1 h2 => .inr ⟨b',y,M,(hnb b' y M h1 h2).1,h2,rfl⟩⟩⟩
    ·cases hl
   ·cases hl
  ·cases hl
 ·cases hl
end Go.AM.Cap
