import Derived.Test.YtjchglndancedaaGreatDoorCfBs
import Derived.Test.YtjchglndancedaaGreatDoorCfX
import Derived.Test.YtjchglndancedaaGreatDoorAmIn
set_option linter.all false
/- conf: plain: what is so of a setup that may be; how many lines are shown -/
set_option maxHeartbeats 4000000
namespace Go.AM.Cap
open Go.AM Go.Proofs
theorem zbop:∀ {ws:List Win} {frame n e:Int},zrm frame n e ws=false→0≤e→∀ w∈ws,-1≤w.part∧w.part < n∧1≤w.len∧0≤w.start∧w.start≤frame∧w.len≤frame - w.start
 | [],_,_,_,_,_,w,hw=>by cases hw
 | x :: ws,frame,n,e,h,he,w,hw=>by
  rw[zrm] at h
  by_cases hb:z3a frame n e x
  ·rw[if_pos hb] at h;cases h
  rw[if_neg hb] at h
  have hb':=hb
  unfold z3a at hb'
  rcases List.mem_cons.1 hw with rfl | hw
  ·omega
  ·exact zbop h (by omega) w hw
theorem zbis {frame n:Int} {ws:List Win} (h:z02 frame ws n=0):1≤n∧n≤8∧1≤frame∧frame≤65536∧ws.length≤32∧∀ w∈ws,-1≤w.part∧w.part < n∧1≤w.len∧0≤w.start∧w.start≤frame∧w.len≤frame - w.start:=by
 unfold z02 at h
 by_cases c1:n < 1∨n > 8
 ·rw[if_pos c1] at h;cases h
 rw[if_neg c1] at h
 by_cases c2:frame < 1∨frame > 65536∨ws.length < 1∨ws.length > 32
 ·rw[if_pos c2] at h;cases h
 rw[if_neg c2] at h
 by_cases c3:zrm frame n 0 ws=true
 ·rw[if_pos c3] at h;cases h
 exact⟨by omega,by omega,by omega,by omega,by omega,zbop (by simpa using c3) (by omega)⟩
theorem zbtt {q:Port} (h:zvt q=0):(q.kind=1∨q.kind=2)∧(0≤q.src∧q.src < 8)∧(0≤q.dst∧q.dst < 8)∧(1≤q.typ∧q.typ≤3)∧(q.kind=1→q.cap=0)∧0≤q.cap∧q.cap≤16:=by
 unfold zvt at h
 by_cases c1:q.kind≠1∧q.kind≠2
 ·rw[if_pos c1] at h;omega
 rw[if_neg c1] at h
 by_cases c2:¬ (0≤q.src∧q.src < 8)∨¬ (0≤q.dst∧q.dst < 8)
 ·rw[if_pos c2] at h;omega
 rw[if_neg c2] at h
 by_cases c3:q.src=q.dst
 ·rw[if_pos c3] at h;omega
 rw[if_neg c3] at h
 by_cases c4:q.typ < 1∨q.typ > 3
 ·rw[if_pos c4] at h;omega
 rw[if_neg c4] at h
 by_cases c5:q.kind=1∧q.cap≠0∨q.kind=2∧(q.cap < 1∨q.cap > 16)
 ·rw[if_pos c5] at h;omega
 omega
theorem zbla:∀ {l ah:List Us} {parts:Int},(zhn parts ah l).2=0→∀ u∈l,zf8 u=true∧zvu u.rs.xs parts=0
 | [],_,_,_,u,hu=>by cases hu
 | x :: l,ah,parts,h,u,hu=>by
  rw[zhn] at h
  by_cases c1:zf8 x=true
  case neg=>rw[if_neg c1] at h;cases h
  rw[if_pos c1] at h
  by_cases c2:(zba7 ah x.name).isSome=true
  ·rw[if_pos c2] at h;cases h
  rw[if_neg c2] at h
  by_cases c3:zvu x.rs.xs parts=0
  case neg=>rw[if_neg c3] at h;exact absurd h c3
  rw[if_pos c3] at h
  rcases List.mem_cons.1 hu with rfl | hu
  ·exact⟨c1,c3⟩
  ·exact zbla h u hu
theorem zbnj {us:List PUs} {parts:Int} (h:(zbba us parts).2=0):us.length≤8∧∀ u∈us,zsr u.name=true∧UsOk u∧∀ r∈u.rs,0≤r.part∧r.part < parts:=by
 unfold zbba znm at h
 by_cases c1:parts < 1∨parts > 8
 ·rw[if_pos c1] at h;cases h
 rw[if_neg c1,List.length_map] at h
 by_cases c2:us.length > 8
 ·rw[if_pos c2] at h;cases h
 rw[if_neg c2] at h
 refine⟨by omega,fun u hu=>?_⟩
 obtain⟨q1,q2⟩:=zbla h u.u (List.mem_map_of_mem hu)
 have q2':zvu u.rs parts=0:=q2
 unfold zvu at q2'
 by_cases c3:u.rs.any (badR parts)=true
 ·rw[if_pos c3] at q2';cases q2'
 have hr:∀ r∈u.rs,¬ (r.part < 0∨r.part≥parts∨r.level < 1∨r.level > 4):=fun r hr hb=>c3 (List.any_eq_true.2 ⟨r,hr,decide_eq_true hb⟩)
 unfold zf8 at q1
 simp only[Bool.and_eq_true,decide_eq_true_eq] at q1
 obtain⟨q3,q4⟩:=q1
 have q3':zsr u.name=true:=q3
 have q3'':=q3'
 unfold zsr at q3''
 simp only[Bool.and_eq_true,decide_eq_true_eq] at q3''
 refine⟨q3',⟨⟨fun e=>q3''.1.1 ?_,q3''.1.2⟩,q4,fun r hm=>?_⟩,fun r hm=>?_⟩
 ·have hz:u.name.data.toList.length=0:=by rw[z9b];exact e
  have:u.name.data=#[]:=by
   have:=List.eq_nil_of_length_eq_zero hz
   simpa using this
  cases hu':u.name with | mk d=>rw[hu'] at this;simp only at this;rw[this]
 ·have:=hr r hm
  exact⟨⟨by omega,by omega⟩,by omega,by omega⟩
 ·have:=hr r hm
  omega
theorem zbit {s:Sy} {us:List PUs} {idle:Int} (h:zou s us idle=0):SyOk s∧(zbba us s.uns.length).2=0∧1≤idle∧idle≤100000:=by
 unfold zou at h
 by_cases c1:exE s≠0
 ·rw[if_pos c1] at h;exact absurd h c1
 rw[if_neg c1] at h
 by_cases c2:(zbba us s.uns.length).2≠0
 ·rw[if_pos c2] at h;exact absurd h c2
 rw[if_neg c2] at h
 by_cases c3:idle < 1∨idle > 100000
 ·rw[if_pos c3] at h;cases h
 exact⟨zbm6 (Decidable.not_not.1 c1),Decidable.not_not.1 c2,by omega,by omega⟩
theorem zbtu {s:Sy} (h:SyOk s):∀ u∈s.uns,UnOk u∧(∀ b∈u.ins,inB s b)∧∀ b∈u.outs,inB s b:=fun u hu=>by
 obtain⟨i,hi,he⟩:=List.mem_iff_getElem.1 hu
 have hb:=h.units i hi
 rw[List.getD_eq_getElem?_getD,List.getElem?_eq_getElem hi] at hb
 simp only[Option.getD_some,he] at hb
 obtain⟨l1,m1⟩:=z0a hb.1
 obtain⟨l2,m2⟩:=z0a hb.2
 have i1:∀ b∈u.ins,inB s b:=fun b hb=>z8z h.grs (m1 b hb)
 have i2:∀ b∈u.outs,inB s b:=fun b hb=>z8z h.grs (m2 b hb)
 have hp:=(zt7 h.chkB).1
 have hq:=(zyy h.chkP).1
 have key:∀ b,inB s b→zer b.n:=fun b hb=>by
  rcases hb with⟨_,q2,q3⟩ | ⟨_,q2,q3⟩ <;> exact⟨by omega,by omega⟩
 exact⟨⟨l1,l2,fun b hb=>key b (i1 b hb),fun b hb=>key b (i2 b hb)⟩,i1,i2⟩
theorem zbwk {s:Sy} (h:SyOk s) (hg:s.grs.length≤1000):ShOk s:=by
 obtain⟨p1,p2,p3,p4,p5,p6⟩:=zbis h.plan
 obtain⟨b1,b2,b3⟩:=zt7 h.chkB
 obtain⟨q1,q2⟩:=zyy h.chkP
 refine⟨b1,fun p hp=>?_,hg,fun g hg=>?_,by omega,fun q hq=>?_,by omega,fun w hw=>?_,by omega,fun u hu=>(zbtu h u hu).1⟩
 ·have:=b2 p hp
  unfold z62 at this
  omega
 ·have:=b3 g hg
  exact⟨⟨by omega,by omega⟩,⟨by omega,by omega⟩⟩
 ·have:=zbtt (q2 q hq)
  exact⟨⟨by omega,by omega⟩,⟨by omega,by omega⟩,⟨by omega,by omega⟩,by omega,by omega⟩
 ·have:=p6 w hw
  exact⟨⟨by omega,by omega⟩,⟨by omega,by omega⟩,⟨by omega,by omega⟩⟩
theorem zbwl {s:Se3} (h:zou s.sy s.us s.idle=0) (hg:s.sy.grs.length≤1000):SeOk s:=by
 obtain⟨h1,h2,h3,h4⟩:=zbit h
 obtain⟨u1,u2⟩:=zbnj h2
 obtain⟨p1,p2,p3,p4,_⟩:=zbis h1.plan
 have:=h1.millis
 exact⟨zbwk h1 hg,fun u hu=>(u2 u hu).2.1,u1,⟨by omega,by omega⟩,⟨by omega,by omega⟩,⟨by omega,by omega⟩⟩
theorem zbqm:∀ (u:Nat),∀ c∈Lib.decDigits u,48≤c.toNat∧c.toNat≤57:=by
 intro u
 induction u using Nat.strongRecOn with
 | ind u ih =>
  intro c hc
  rw[Lib.decDigits] at hc
  by_cases h:u < 10
  ·rw[dif_pos h] at hc
   simp only[List.mem_cons,List.not_mem_nil,or_false] at hc
   subst hc
   show 48≤(48 + u) % 256∧(48 + u) % 256≤57
   omega
  ·rw[dif_neg h] at hc
   rcases List.mem_append.1 hc with hc | hc
   ·exact ih (u / 10) (by omega) c hc
   ·simp only[List.mem_cons,List.not_mem_nil,or_false] at hc
    subst hc
    show 48≤(48 + u % 10) % 256∧(48 + u % 10) % 256≤57
    omega
end Go.AM.Cap

/- conf: ConfLines, the walk -/
set_option maxHeartbeats 16000000
namespace Go.AM.Cap
open Go.AM Go.Proofs
variable {H:Heap}
theorem zbxf (l:List UInt8):bv ⟨l.toArray⟩=l.map UInt8.toBitVec:=by simp[bv]
theorem zbwm (l:List UInt8):(⟨l.toArray⟩:ByteArray).size=l.length:=by rw[← z9b]
end Go.AM.Cap
