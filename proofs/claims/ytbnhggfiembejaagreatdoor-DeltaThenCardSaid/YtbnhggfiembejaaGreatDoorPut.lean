import Derived.Test.YtbnhggfiembejaaGreatDoorCanon
import Derived.Test.YtbnhggfiembejaaGreatDoorMap
import Derived.LaidEql
namespace Go.Proofs.YtbnhggfiembejaaGreatDoor
open Go Go.RowKit X
set_option linter.unusedSimpArgs false
set_option linter.unusedVariables false
set_option linter.unusedSectionVars false
variable [Floor]
abbrev QlH (x o : Nat) (mt : Option Y3) : Value:=.agg #[.int .u64 x,.int .u64 o,mv mt]
abbrev Q5P (x o : Nat) (mt : Option Y3) : List Value:=[.int .u64 x,.int .u64 o,mv mt]
theorem Q6q : Oth KS:=by unfold Oth; decide
def T.OwQ (q : Nat → Prop) : T → Prop
 | .nil => True
 | .node _ ow _ _ _ kids => q ow ∧ ∀ c,(kids c).OwQ q
theorem T.Q1g.q {o : Nat} : ∀ {t : T},t.Q1g o → t.OwQ (· = o):=by
 intro t
 induction t with
 | nil => intro _; trivial
 | node a ow part val ks kids ih => rintro ⟨h1,h2⟩; exact ⟨h1,fun c => ih c (h2 c)⟩
theorem T.OwQ.mono {q q' : Nat → Prop} (hq : ∀ o,q o → q' o) : ∀ {t : T},t.OwQ q → t.OwQ q':=by
 intro t
 induction t with
 | nil => intro _; trivial
 | node a ow part val ks kids ih => rintro ⟨h1,h2⟩; exact ⟨hq _ h1,fun c => ih c (h2 c)⟩
theorem T.OwQ.free {o : Nat} : ∀ {t : T},t.OwQ (· ≠ o) → t.Q9P o:=by
 intro t
 induction t with
 | nil => intro _; trivial
 | node a ow part val ks kids ih => rintro ⟨h1,h2⟩; exact ⟨h1,fun c => ih c (h2 c)⟩
theorem Tree.not {w : World} {t : T} {b : Nat} {cs : List Value} {T : TypeId} (h : Tree w t) (hb : QZ w b cs T) (ho : Oth T) : ¬ t.All b:=fun hc => by
 obtain ⟨cs',T',h1,h2⟩:=h.ty hc
 exact ho.nt h2 (h1.inj hb).2
theorem Tree.nbX {w : World} {t : T} {X : Nat → Prop} (h : Tree w t) (hx : ∀ b,X b → t.All b) : NB w X:=fun b hb _ => by
 obtain ⟨cs,T',h1,h2⟩:=h.ty (hx b hb)
 exact ⟨h.fl (hx b hb),cs,T',h1,(NT.ne h2).1⟩
theorem AJ.from' {w w1 w2 : World} {o n : Nat} {t t' : T} {mt : Option Y3} (he : Ext No w w1) (h : AJ w1 w2 o t t' mt n) : AJ w w2 o t t' mt n:=by
 have:=he.size
 exact ⟨h.tree,(he.mono fun _ _ h => h.elim).QI h.ext,h.cnt,fun b hb => (h.all b hb).imp id fun h => by omega,fun b hb => (h.foot b hb).imp id fun h => by omega,h.sep⟩
theorem Bs.rdK {w : World} {v : Value} {bs : Key} {K : Value → Value → Prop} {kd : IntKind} {i : Int} (h : Bs w v bs) (m : Nat) (hm : m < bs.length) (hi : i = (m : Int)) (k : ∀ p,(∀ w',Bs w' v bs → Zg w' p (bv bs[m])) → K p (bv bs[m])) :
  Zb v (.int kd i) 1 fun u => Z6 u fun a => QC w a fun x => K u x:=by
 have key : ∀ w',Bs w' v bs → ∃ a cap,v = .slice (some a) bs.length cap ∧ w'.cell? (a.add (m * 1)) = some (bv bs[m]):=by
  intro w' h1
  obtain ⟨a,cap,rfl,hc⟩:=Sl.cell h1 hm (Nat.zero_lt_one)
  refine ⟨a,cap,rfl,?_⟩
  simp only [Nat.mul_one,Nat.add_zero,Addr.add_zero'] at hc ⊢
  rw [hc]; simp [hm]
 obtain ⟨a,cap,rfl,hc⟩:=key w h
 refine ⟨m,hi,hm,⟨_,hc,k _ fun w' h' => ?_⟩⟩
 obtain ⟨a',cap',e,hc'⟩:=key w' h'
 simp only [Value.slice.injEq,Option.some.injEq] at e
 obtain ⟨rfl,-,rfl⟩:=e
 exact hc'
def T.Top (o : Nat) : T → Prop
 | .nil => False
 | .node _ ow _ _ _ _ => ow = o
def T.RJ (o : Nat) : T → Nat
 | .nil => 0
 | .node _ ow _ _ _ kids => (Rf.map fun c => (kids c).RJ o).sum + (if ow = o then 0 else 1)
abbrev QlJ (o : Nat) (kids : UInt8 → T) : Nat:=(Rf.map fun c => (kids c).RJ o).sum
theorem Jg {o a ow : Nat} {part : Key} {val : Option Nat} {ks : List Nat} {kids : UInt8 → T} : (T.node a ow part val ks kids).RJ o = QlJ o kids + (if ow = o then 0 else 1):=by rw [T.RJ]
theorem WV (o : Nat) (kids : UInt8 → T) (b : UInt8) (t : T) : QlJ o (Zt kids b t) + (kids b).RJ o = QlJ o kids + t.RJ o:=by
 have:=Qhx (Eg.nodup P8) (P9 b) (fun c => (kids c).RJ o) (t.RJ o)
 have e : (Rf.map fun c => (Zt kids b t c).RJ o) = Rf.map fun c => if c = b then t.RJ o else (kids c).RJ o:=by
  refine List.map_congr_left fun c _ => ?_
  unfold Zt; split <;> rfl
 show (Rf.map fun c => (Zt kids b t c).RJ o).sum + _ = _
 rw [e]; exact this
theorem Q6p (o : Nat) : QlJ o (fun _ => T.nil) = 0:=by
 have : ∀ l : List UInt8,(l.map fun _ => (T.nil).RJ o).sum = 0:=by
  intro l
  induction l with
  | nil => rfl
  | cons a r ih => rw [List.map_cons,List.sum_cons,ih]; rfl
 exact this Rf
theorem Q2h {o a : Nat} {p : Key} {v : Option Nat} : (T.node a o p v [] fun _ => .nil).RJ o = 0:=by rw [Jg,Q6p,if_pos rfl]
theorem QlI (o : Nat) (kids : UInt8 → T) (c : UInt8) : (kids c).RJ o ≤ QlJ o kids:=by
 have:=WV o kids c .nil
 have : (T.nil).RJ o = 0:=rfl
 omega
def T.Way (o : Nat) : T → Key → Prop
 | .nil,_ => True
 | .node _ ow part _ _ kids,k => ow = o ∧ ∀ c r,k = part ++ c :: r → (kids c).Way o r
def T.Up (o : Nat) : T → Prop
 | .nil => True
 | .node _ ow _ _ _ kids => (ow = o ∨ ∀ c,(kids c).Q9P o) ∧ ∀ c,(kids c).Up o
theorem T.Q9P.up {o : Nat} : ∀ {t : T},t.Q9P o → t.Up o:=by
 intro t
 induction t with
 | nil => intro _; trivial
 | node a ow part val ks kids ih => rintro ⟨-,h⟩; exact ⟨.inr h,fun c => ih c (h c)⟩
theorem Qds {p r : Key} {c : UInt8} (h : p = p ++ c :: r) : False:=by
 have:=congrArg List.length h
 simp at this
theorem Q2o {p r r' : Key} {c c' : UInt8} (h : p ++ c :: r = p ++ c' :: r') : c = c' ∧ r = r':=by simpa using h
theorem QcZ {w w' : World} {o n : Nat} {t1 t2 : T} {mt : Option Y3} (h1 : Tree w t1) (h2 : Tree w' t2) (hm : Mt w mt n) (he : Ext (fun b => MX mt b ∨ t1.Bt o b) w w') (hf : t1.Q9P o) (hp : t2.ptr = t1.ptr) (ht : t2.Top o) : False:=by
 cases t2 with
 | nil => exact ht
 | node a2 ow2 p2 v2 ks2 Bl =>
   have ht : ow2 = o:=ht
   cases t1 with
   | nil => cases hp
   | node a1 ow1 p1 v1 H9 Ve =>
     obtain rfl : a2 = a1:=by simpa [T.ptr] using hp
     obtain ⟨pv1,hb1,-⟩:=h1.1.blk
     obtain ⟨pv2,hb2,-⟩:=h2.1.blk
     have hb1':=hb1.ext he fun hx => hx.elim (hm.ne hb1 (by decide)) (hf.foot _)
     have e:=(hb1'.inj hb2).1
     simp only [List.cons.injEq,Value.int.injEq,true_and] at e
     exact hf.1 (by have:=e.1; omega)
structure Rm (w w' : World) (o : Nat) (t t' : T) (mt : Option Y3) (n n' : Nat) (k : Key) (x : Nat) : Prop where
 res : AJ w w' o t t' mt n'
 er : t'.er = G8 t.er k x
 QR : t.ZJ → t'.ZJ
 le : n' ≤ n + t.steps k + 2
 own : ∀ q : Nat → Prop,q o → t.OwQ q → t'.OwQ q
 mine : t.OwQ (· = o) → n' ≤ n + 2 ∧ ((t.get k).isSome → t'.ptr = t.ptr ∧ n' = n)
 root : ∀ a,t.ptr = some ⟨a,0,none⟩ → ∃ cs T,QZ w' a cs T
 top : t'.ptr = t.ptr ∨ t'.Top o
 RJ : n' + t'.RJ o ≤ n + t.RJ o + 2
 Qu3 : (t.get k).isSome → n' + t'.RJ o ≤ n + t.RJ o
 still : t.Way o k → (t.get k).isSome → t'.ptr = t.ptr ∧ n' = n
 up : t.get k ≠ some x → t.Up o → t'.Up o ∧ t'.Way o k
theorem Rm.from' {w w1 w2 : World} {o n n' x : Nat} {t t' : T} {mt : Option Y3} {k : Key} (he : Ext No w w1) (h : Rm w1 w2 o t t' mt n n' k x) : Rm w w2 o t t' mt n n' k x :=
 ⟨h.res.from' he,h.er,h.QR,h.le,h.own,h.mine,h.root,h.top,h.RJ,h.Qu3,h.still,h.up⟩
section
variable {w : World} {a ow o x : Nat} {part : Key} {val : Option Nat} {ks : List Nat} {kids : UInt8 → T} {mt : Option Y3} {n : Nat}
theorem QqS (ht : Tree w (.node a ow part val ks kids)) (hs : (T.node a ow part val ks kids).Sep o) (hm : Mt w mt n) (ho : o ≠ 0) (hx : x < 18446744073709551616) :
  Q6 P CR [QlH x o mt,(T.node a ow part val ks kids).v] w fun r w' => ∃ t' n',r = t'.v ∧ Rm w w' o (.node a ow part val ks kids) t' mt n n' part x:=by
 refine Q2W ?_
 refine Qz fun pb w1 hpb hblk hz he => ?_
 have hblk : QZ w1 pb (Q5P x o mt) KS:=hblk
 have ht1:=ht.Q4 he
 have hm1:=hm.Q4 he
 obtain ⟨pv0,hba,-⟩:=ht1.1.blk
 refine hblk.ld (v:=mv mt) rfl ?_
 refine hblk.ld (v:=.int .u64 o) rfl ?_
 refine (Q1C (AJ.start ht1 hs hm1).h ho).mono ?_
 rintro r w2 ⟨u,Jw,n',rfl,hR,hiff,he2,hle,Un⟩
 have hblk2:=hblk.ext he2 (hm1.ne hblk (by decide))
 have Qv5:=hba.ext he2 (hm1.ne hba (by decide))
 refine hblk2.ld (v:=.int .u64 o) rfl ?_
 refine hblk2.ld (v:=.int .u64 x) rfl ?_
 refine (QbR (hR.res rfl) ho hx).mono ?_
 rintro r w3 ⟨hR3,QE⟩
 obtain ⟨pvu,hbu,-⟩:=hR3.tree.1.blk
 have hput : G8 (T.node a ow part val ks kids).er part x = .node part (some x) fun c => (kids c).er:=by
  have:=RI (p:=part) (r:=[]) (val:=val) (kids:=fun c => (kids c).er) (v:=x)
  rw [List.append_nil] at this
  exact this
 refine ⟨.node u o part (some x) Jw kids,n',rfl,Rm.from' he ⟨hR3,hput.symm,fun hl => ⟨by rw [hiff]; exact hl.1,hl.2⟩,by omega,fun q hq hw => ⟨hq,hw.2⟩,fun hw => ?_,fun a' ha' => ?_,.inr rfl,by rw [Jg,Jg,if_pos rfl]; omega,fun _ => ?_,fun hw _ => ?_,fun _ hu => ⟨⟨.inl rfl,hu.2⟩,rfl,fun c r e => (Qds e).elim⟩⟩⟩
 · obtain ⟨h1,h2,h3⟩:=Un hw.1.symm
   exact ⟨by omega,fun _ => ⟨by rw [h1]; rfl,h3⟩⟩
 · obtain rfl : a = a':=by simpa [T.ptr] using ha'
   by_cases e : a = u
   · subst e; exact ⟨_,_,hbu⟩
   · exact ⟨_,_,Qv5.ext QE e⟩
 · rw [Jg,Jg,if_pos rfl]
   split
   · rename_i how
     have:=(Un how.symm).2.2
     omega
   · omega
 · obtain ⟨h1,h2,h3⟩:=Un hw.1.symm
   exact ⟨by rw [h1]; rfl,h3⟩
theorem Sep.leaf {o a : Nat} {p : Key} {v : Option Nat} : (T.node a o p v [] fun _ => .nil).Sep o:=⟨fun _ => trivial,fun _ _ _ _ h => h.elim,fun _ _ _ _ h => h.elim,fun _ _ h => h.elim⟩
theorem D6 {a o b : Nat} {p : Key} {v : Option Nat} (h : (T.node a o p v [] fun _ => .nil).All b) : b = a:=by
 rcases h with (h | h) | ⟨c,h⟩
 · exact h
 · cases h
 · exact h.elim
theorem Q6v {a o : Nat} {p : Key} {v : Option Nat} : (T.node a o p v [] fun _ => .nil).Up o:=⟨.inl rfl,fun _ => trivial⟩
theorem Q7j {a o : Nat} {p k : Key} {v : Option Nat} : (T.node a o p v [] fun _ => .nil).Way o k:=⟨rfl,fun _ _ _ => trivial⟩
theorem OV {a o : Nat} {p : Key} {v : Option Nat} : (T.node a o p v [] fun _ => .nil).ZJ:=⟨by simp [cnt,VG,T.ptr],fun _ => trivial⟩
theorem QbS {vk : Value} {k : Key} (hm : Mt w mt n) (hk : Bs w vk k) (hkl : k.length ≤ 65535) (hx : x < 18446744073709551616) :
  Q6 P XN [mv mt,.int .u64 o,vk,.int .u64 x] w fun r w' => ∃ a,r = rp a ∧ Tree w' (.node a o k (some x) [] fun _ => .nil) ∧ w.heap.size ≤ a ∧ Mt w' mt (n + 1) ∧ Ext (MX mt) w w':=by
 refine (QbU hm hk hkl hx).mono ?_
 rintro r w1 ⟨a,rfl,hna,ha,hm1,he1⟩
 exact ⟨a,rfl,⟨hna,fun _ => trivial⟩,ha,hm1,he1⟩
theorem QvH {vk : Value} {k : Key} (hm : Mt w mt n) (hk : Bs w vk k) (hkl : k.length ≤ 65535) (hx : x < 18446744073709551616) :
  Q6 P Vy [QlH x o mt,T.nil.v,vk] w fun r w' => ∃ t',r = t'.v ∧ Rm w w' o .nil t' mt n (n + 1) k x:=by
 refine IJ ?_
 refine Qz fun pb w1 hpb hblk hz he => ?_
 have hblk : QZ w1 pb (Q5P x o mt) KS:=hblk
 refine Qr rfl ?_
 refine hblk.ld (v:=mv mt) rfl ?_
 refine hblk.ld (v:=.int .u64 o) rfl ?_
 refine hblk.ld (v:=.int .u64 x) rfl ?_
 refine (QbS (hm.Q4 he) (hk.Q4 he) hkl hx).mono ?_
 rintro r w2 ⟨a,rfl,htr,ha,hm2,he2⟩
 refine ⟨.node a o k (some x) [] fun _ => .nil,rfl,Rm.from' he ⟨⟨htr,he2.mono fun b _ h => .inl h,hm2,fun b hb => .inr (by rw [D6 hb]; exact ha),fun b hb => .inr (by rw [D6 hb.all]; exact ha),Sep.leaf⟩,rfl,fun _ => OV,by omega,fun q hq _ => ⟨hq,fun _ => trivial⟩,fun _ => ⟨by omega,fun h => by cases h⟩,(fun a h => by cases h),.inr rfl,by rw [Q2h]; omega,(fun h => by cases h),(fun _ h => by cases h),fun _ _ => ⟨Q6v,Q7j⟩⟩⟩
end
def Qtn (o x : Nat) (mt : Option Y3) (t : T) : Prop:=∀ {w : World} {vk : Value} {k : Key} {n : Nat},Tree w t → t.Sep o → t.er.ZV → t.ZJ → Mt w mt n → Bs w vk k → k.length ≤ 65535 →
 Q6 P Vy [QlH x o mt,t.v,vk] w fun r w' => ∃ t' n',r = t'.v ∧ Rm w w' o t t' mt n n' k x
section
variable {w : World} {a ow o x : Nat} {part : Key} {val : Option Nat} {ks : List Nat} {kids : UInt8 → T} {mt : Option Y3} {n : Nat} {vk : Value} {c : UInt8} {r : Key}
theorem T.QfJ {t : T} (h : t.er.opt.isSome = true) : ∃ a ow part val ks kids,t = .node a ow part val ks kids:=by
 cases t with
 | nil => cases h
 | node => exact ⟨_,_,_,_,_,_,rfl⟩
theorem Qof (ih : Qtn o x mt (kids c)) (ht : Tree w (.node a ow part val ks kids)) (hs : (T.node a ow part val ks kids).Sep o) (hf : (T.node a ow part val ks kids).er.ZV) (hl : (T.node a ow part val ks kids).ZJ) (hne : ks ≠ []) (hm : Mt w mt n) (ho : o ≠ 0) (hk : Bs w vk (c :: r)) (hkl : r.length ≤ 65535) :
  Q6 P BK [QlH x o mt,(T.node a ow part val ks kids).v,vk] w fun r' w' => ∃ t' n',r' = t'.v ∧ Rm w w' o (.node a ow part val ks kids) t' mt n n' (part ++ c :: r) x:=by
 refine Q1J ?_
 refine Qz fun pb w1 hpb hblk hz he => ?_
 have hblk : QZ w1 pb (Q5P x o mt) KS:=hblk
 have hk1:=hk.Q4 he
 refine hk1.rd 0 (by simp) rfl ?_
 refine (FI (ht.Q4 he)).mono ?_
 rintro _ w2 ⟨rfl,he2⟩
 have hE2 : Ext No w w2.drew:=(he.Q0 he2).drew
 have hblk2 : QZ w2.drew pb (Q5P x o mt) KS:=(hblk.ext he2 fun h => h).drew
 have ht2:=ht.Q4 hE2
 have hm2:=hm.Q4 hE2
 have hk2:=hk.Q4 hE2
 refine hblk2.JH rfl ?_
 refine (hk.Q4 (he.Q0 he2)).drop 1 rfl (by simp) fun vr hvr => ?_
 have hvr : Bs w2.drew vr r:=hvr.Q4 (Ext.refl No w2).drew
 refine (ih (ht2.2 c) (hs.1 c) (hf.2 c) (hl.2 c) hm2 hvr hkl).mono ?_
 rintro _ w3 ⟨t2,n2,rfl,hP⟩
 have hH:=Q4P.kid ht2 hs hm2 hP.res
 obtain ⟨a2,ow2,QlM,val2,ks2,Bl,Q5R⟩:=T.QfJ (t:=t2) (by rw [hP.er]; exact Qa6)
 have hp2 : t2.ptr = some ⟨a2,0,none⟩:=by rw [Q5R]; rfl
 have Q59 : (T.node a ow part val ks kids).get (part ++ c :: r) = (kids c).get r:=Z8
 have hstep : (T.node a ow part val ks kids).steps (part ++ c :: r) = (kids c).steps r + 1:=by
  rw [T.DF,if_pos (List.prefix_append _ _),List.drop_left]
 have her : ∀ u Jw,(T.node u o part val Jw (Zt kids c t2)).er = G8 (T.node a ow part val ks kids).er (part ++ c :: r) x:=fun u Jw => by
  show E.node part val (fun d => (Zt kids c t2 d).er) = G8 (.node part val fun d => (kids d).er) (part ++ c :: r) x
  rw [RI,Uf,hP.er]
 have hle:=hP.le
 have hx1 : ∀ b,(MX mt b ∨ (T.node a ow part val ks kids).Bt o b) → b ≠ pb:=fun b hb e => by
  subst e
  rcases hb with hb | hb
  · exact hm2.ne hblk2 (by decide) hb
  · exact ht2.not hblk2 Q6q hb.all
 have hblk3 : QZ w3 pb (Q5P x o mt) KS:=hblk2.ext hH.ext fun h => hx1 _ h rfl
 have hk3 : Bs w3 vk (c :: r):=hk2.ext hH.ext (hm2.nb.or (Bt.nb ht2))
 obtain ⟨pv0,hba,-⟩:=hH.na.blk
 have Qbl : ∀ u Jw,Jw ≠ [] → (T.node a ow part val ks kids).ZJ → (T.node u o part val Jw (Zt kids c t2)).ZJ:=fun u Jw hu hlf => by
  refine ⟨iff_of_false hu ?_,fun d => ?_⟩
  · rw [show (fun d => (Zt kids c t2 d).ptr) = ptrs (Zt kids c t2) from rfl,GG,hp2]
    exact fun h0 => by
     have h1:=(Zd (m:=upd (ptrs kids) c (some ⟨a2,0,none⟩)) (c:=c)).2 (by rw [upd_same]; rfl)
     unfold cnt at h0
     rw [List.length_eq_zero_iff.1 h0] at h1
     cases h1
  · unfold Zt; split
    · exact hP.QR (hlf.2 c)
    · exact hlf.2 d
 have QmD : ∀ q : Nat → Prop,q o → (∀ d,(kids d).OwQ q) → ∀ d,(Zt kids c t2 d).OwQ q:=fun q hq h d => by
  unfold Zt; split
  · exact hP.own q hq (h c)
  · exact h d
 have hroot : ∀ w',QZ w' a [.int .u64 ow,pv0,.int .u64 (val.getD 0 : Nat),.bool val.isSome,Xa ks] JV → ∀ a',(T.node a ow part val ks kids).ptr = some ⟨a',0,none⟩ → ∃ cs T,QZ w' a' cs T:=fun w' h a' ha' => by
  obtain rfl : a = a':=by simpa [T.ptr] using ha'
  exact ⟨_,_,h⟩
 have Qvq : t2.ptr = (kids c).ptr → Rm w w3 o (.node a ow part val ks kids) (.node a ow part val ks (Zt kids c t2)) mt n n2 (part ++ c :: r) x:=fun e => by
  have hmm : ptrs kids = ptrs (Zt kids c t2):=by rw [GG,e]; exact (Qli _ _).symm
  refine Rm.from' hE2 ⟨hH.res hmm,?_,fun hlf => ?_,by rw [hstep]; omega,fun q hq h => ⟨h.1,QmD q hq h.2⟩,fun h => ?_,hroot w3 hba,.inl rfl,?_,fun hg => ?_,fun hw hg => ?_,fun hne hu => ?_⟩
  · show E.node part val (fun d => (Zt kids c t2 d).er) = _
    exact her a ks
  · refine ⟨by rw [show (fun d => (Zt kids c t2 d).ptr) = ptrs (Zt kids c t2) from rfl,← hmm]; exact hlf.1,fun d => ?_⟩
    unfold Zt; split
    · exact hP.QR (hlf.2 c)
    · exact hlf.2 d
  · obtain ⟨h1,h2⟩:=hP.mine (h.2 c)
    refine ⟨h1,fun hg => ⟨rfl,?_⟩⟩
    rw [Q59] at hg
    exact (h2 hg).2
  · have h1:=hP.RJ
    have h2:=WV o kids c t2
    rw [Jg,Jg]
    omega
  · rw [Q59] at hg
    have h1:=hP.Qu3 hg
    have h2:=WV o kids c t2
    rw [Jg,Jg]
    omega
  · rw [Q59] at hg
    exact ⟨rfl,(hP.still (hw.2 c r rfl) hg).2⟩
  · rw [Q59] at hne
    obtain ⟨u1,u2⟩:=hP.up hne (hu.2 c)
    have how : ow = o:=hu.1.elim id fun hf => (QcZ (ht2.2 c) hP.res.tree hm2 hP.res.ext (hf c) e (by
     rw [Q5R] at u2 ⊢
     exact u2.1)).elim
    refine ⟨⟨.inl how,fun d => ?_⟩,how,fun c' r' e' => ?_⟩
    · unfold Zt; split
      · exact u1
      · exact hu.2 d
    · obtain ⟨rfl,rfl⟩:=Q2o e'
      rw [Vo]; exact u2
 have Qm3 : t2.ptr ≠ (kids c).ptr → QC w3 ⟨pb,2,none⟩ fun Qu => QC w3 ⟨pb,1,none⟩ fun QS => Q6 P K7 [(T.node a ow part val ks kids).v,Qu,QS] w3 fun QA ZP => QC ZP.drew ⟨pb,1,none⟩ fun Z4 => Zb vk (.int .i64 0) 1 fun QK => Z6 QK fun WY => QC ZP.drew WY fun Zw => Q6 P QL [QA,Z4,Zw,t2.v] ZP.drew fun Z9 w' => ∃ t' n',QA = t'.v ∧ Rm w w' o (.node a ow part val ks kids) t' mt n n' (part ++ c :: r) x:=fun e => by
  refine hblk3.ld (v:=mv mt) rfl ?_
  refine hblk3.ld (v:=.int .u64 o) rfl ?_
  refine (Q1C hH ho).mono ?_
  rintro _ w4 ⟨u,Jw,n3,rfl,hH4,hiff,Zl,hle4,Un⟩
  have Ni : QZ w4.drew pb (Q5P x o mt) KS:=(hblk3.ext Zl (hH.cnt.ne hblk3 (by decide))).drew
  have QAq:=(hba.ext Zl (hH.cnt.ne hba (by decide))).drew
  have hk4 : Bs w4.drew vk (c :: r):=(hk3.mt Zl hH.cnt).Q4 (Ext.refl No w4).drew
  have QAO:=hH4.Q4 (Ext.refl No w4).drew
  have hu : Jw ≠ []:=fun h => hne (hiff.1 h)
  refine Ni.ld (v:=.int .u64 o) rfl ?_
  refine hk4.rd 0 (by simp) rfl ?_
  have hv2 : t2.v = rp a2:=by show Value.pointer t2.ptr = _; rw [hp2]
  rw [hv2]
  refine (Qor QAO ho hu (c0:=c) (by rw [Vo]; exact hp2) fun d hd => by rw [WJ _ _ hd]).mono ?_
  rintro _ w5 ⟨Yb,hR5,hne5,ZR⟩
  have hnu : a ≠ u → ¬ a ∈ Jw:=fun _ hx => by
   obtain ⟨cs',T',h1,h2⟩:=QAO.na.kd.ty a hx
   exact h2.ne.2.1 (h1.inj QAq).2
  refine ⟨.node u o part val Yb (Zt kids c t2),n3,rfl,Rm.from' hE2 ⟨hR5,her u Yb,Qbl u Yb hne5,by rw [hstep]; omega,fun q hq h => ⟨hq,QmD q hq h.2⟩,fun h => ?_,fun a' ha' => ?_,.inr rfl,?_,fun hg => ?_,fun hw hg => ?_,fun hne hu => ?_⟩⟩
  · obtain ⟨h1,h2⟩:=hP.mine (h.2 c)
    obtain ⟨h3,-,h4⟩:=Un h.1.symm
    refine ⟨by omega,fun hg => ?_⟩
    rw [Q59] at hg
    exact absurd (h2 hg).1 e
  · obtain rfl : a = a':=by simpa [T.ptr] using ha'
    by_cases hau : a = u
    · subst hau
      obtain ⟨pvu,hbu,-⟩:=hR5.tree.1.blk
      exact ⟨_,_,hbu⟩
    · exact ⟨_,_,QAq.ext ZR (hnu hau)⟩
  · have h1:=hP.RJ
    have h2:=WV o kids c t2
    rw [Jg,Jg,if_pos rfl]
    split
    · rename_i how
      have:=(Un how.symm).2.2
      omega
    · omega
  · rw [Q59] at hg
    have h1:=hP.Qu3 hg
    have h2:=WV o kids c t2
    rw [Jg,Jg,if_pos rfl]
    split
    · rename_i how
      have:=(Un how.symm).2.2
      omega
    · omega
  · rw [Q59] at hg
    exact absurd (hP.still (hw.2 c r rfl) hg).1 e
  · rw [Q59] at hne
    obtain ⟨u1,u2⟩:=hP.up hne (hu.2 c)
    refine ⟨⟨.inl rfl,fun d => ?_⟩,rfl,fun c' r' e' => ?_⟩
    · unfold Zt; split
      · exact u1
      · exact hu.2 d
    · obtain ⟨rfl,rfl⟩:=Q2o e'
      rw [Vo]; exact u2
 show Ia P w3 (.pointer t2.ptr) (.pointer (kids c).ptr) _
 rw [hp2]
 cases hkc : kids c with
 | nil =>
   refine Qp rfl ?_
   exact Qm3 (by rw [hp2,hkc]; simp [T.ptr])
 | node a1 ow1 part1 val1 H9 Ve =>
   have hkp : (kids c).ptr = some ⟨a1,0,none⟩:=by rw [hkc]; rfl
   obtain ⟨cs1,T1,hb1⟩:=hP.root a1 hkp
   have hb2 : ∃ cs T,QZ w3 a2 cs T:=by
    have:=hP.res.tree
    rw [Q5R] at this
    obtain ⟨pv,hb,-⟩:=this.1.blk
    exact ⟨_,_,hb⟩
   obtain ⟨cs2,T2,hb2⟩:=hb2
   show QaG P w3 ⟨a2,0,none⟩ ⟨a1,0,none⟩ _
   by_cases e : a2 = a1
   · subst e
     refine I9 (run_sameAddr_same _ _) ?_
     exact Qr rfl ⟨.node a ow part val ks (Zt kids c t2),n2,rfl,Qvq (by rw [hp2,hkp])⟩
   · refine I9 (run_sameAddr_other _ (by simp [e]) hb2.h hb1.h) ?_
     refine Qp rfl ?_
     exact Qm3 (by rw [hp2,hkp]; simp [e])
end
theorem Q6n {w w' : World} {a ow o : Nat} {part : Key} {val : Option Nat} {ks : List Nat} {kids : UInt8 → T} {mt : Option Y3} {n n' : Nat} {t' : T} (hR : AJ w w' o (.node a ow part val ks kids) t' mt n') (ht : Tree w (.node a ow part val ks kids)) (hs : (T.node a ow part val ks kids).Sep o) (hm : Mt w mt n) (h : o = ow → t'.All a) :
  ∀ a',(T.node a ow part val ks kids).ptr = some ⟨a',0,none⟩ → ∃ cs T,QZ w' a' cs T:=fun a' ha' => by
 obtain rfl : a = a':=by simpa [T.ptr] using ha'
 obtain ⟨pv,hb,-⟩:=ht.1.blk
 by_cases e : o = ow
 · obtain ⟨cs,T',h1,-⟩:=hR.tree.ty (h e)
   exact ⟨_,_,h1⟩
 · refine ⟨_,_,hb.ext hR.ext fun hx => ?_⟩
   rcases hx with hx | hx
   · exact hm.ne hb (by decide) hx
   · rcases hx with ⟨h1,-⟩ | ⟨c,h1⟩
     · exact e h1.symm
     · exact hs.2.2.2 c a h1 (.inl rfl)
theorem MU {kids : UInt8 → T} {c : UInt8} {t2 : T} (h : t2.ptr.isSome = true) : cnt (fun d => (Zt kids c t2 d).ptr) ≠ 0:=fun h0 => by
 have h1:=(Zd (m:=fun d => (Zt kids c t2 d).ptr) (c:=c)).2 (by rw [Vo]; exact h)
 unfold cnt at h0
 rw [List.length_eq_zero_iff.1 h0] at h1
 cases h1
theorem Q3I {a ow : Nat} {part : Key} {val : Option Nat} {ks : List Nat} {kids : UInt8 → T} {k : Key} : 1 ≤ (T.node a ow part val ks kids).steps k:=by
 rw [T.DF]
 split
 · split
   · exact Nat.le_refl _
   · exact Nat.succ_le_succ (Nat.zero_le _)
 · exact Nat.le_refl _
theorem AJ.QBw {w w1 w2 : World} {o n n2 : Nat} {t t' : T} {mt : Option Y3} (h : AJ w w1 o t t' mt n) (e : Ext (MX mt) w1 w2) (hm : Mt w2 mt n2) : AJ w w2 o t t' mt n2 :=
 ⟨h.tree.YL h.cnt e,h.ext.QI (e.mono fun b _ hb => .inl hb),hm,h.all,h.foot,h.sep⟩
section
variable {w w1 : World} {o x up pb n1 : Nat} {t : T} {p r : Key} {QwQ : Option Nat} {Jw : List Nat} {QhD : UInt8 → T} {mt : Option Y3} {vk : Value} {K : Value → World → Prop}
theorem Qaz (hR : AJ w w1 o t (.node up o p QwQ Jw QhD) mt n1) (hu : Jw ≠ []) (hb : QZ w1 pb (Q5P x o mt) KS) (hk : Bs w1 vk (p ++ r)) (hkl : (p ++ r).length ≤ 65535) (hnil : ∀ y r',r = y :: r' → QhD y = .nil) (ho : o ≠ 0) (hx : x < 18446744073709551616)
  (K1 : r = [] → ∀ w',AJ w w' o t (.node up o p (some x) Jw QhD) mt n1 → K (rp up) w')
  (K2 : ∀ y r',r = y :: r' → ∀ w' lf Yb,AJ w w' o t (.node up o p QwQ Yb (Zt QhD y (.node lf o r' (some x) [] fun _ => .nil))) mt (n1 + 1) → Yb ≠ [] → Ext (fun b => MX mt b ∨ b ∈ Jw) w1 w' → K (rp up) w') :
  XJ (fun Q5H =>
Zq vk fun Yp =>
YA (.int .i64 (p.length : Nat)) Yp fun KY =>
Ql KY (QC w1 ((⟨pb,0,none⟩ : Addr).add 1) fun K4 =>
QC w1 ((⟨pb,0,none⟩ : Addr).add 0) fun Ya =>
Q6 P Zu [rp up,K4,Ya] w1 fun Js VO =>
Q5H [] VO) (QC w1.drew ((⟨pb,0,none⟩ : Addr).add 1) fun ZL =>
Zb vk (.int .i64 (p.length : Nat)) 1 fun Xh =>
Z6 Xh fun Qp3 =>
QC w1.drew Qp3 fun KA =>
QC w1.drew ((⟨pb,0,none⟩ : Addr).add 2) fun WT =>
QC w1.drew ((⟨pb,0,none⟩ : Addr).add 1) fun K3 =>
ZU (.int .i64 (p.length : Nat)) (.int .i64 1) fun Ex =>
Yg 1 vk (some Ex) none none fun XD =>
QC w1.drew ((⟨pb,0,none⟩ : Addr).add 0) fun KX =>
Q6 P XN [WT,K3,XD,KX] w1.drew fun Yi Cv =>
Zg Cv Xh KA ∧ (Zg Cv (.pointer (some ((⟨pb,0,none⟩ : Addr).add 1))) ZL ∧ (Q6 P QL [rp up,ZL,KA,Yi] Cv fun Ki JZ =>
Q5H [] JZ)))) fun Mi Qno Vj => K (rp up) Vj:=by
 refine xj (fun vs w' => K (rp up) w') ?_ (fun vs g w' h => h)
 refine hk.len ?_
 cases r with
 | nil =>
   refine Qr (by simp) ?_
   refine hb.ld (v:=.int .u64 o) rfl ?_
   refine hb.ld (v:=.int .u64 x) rfl ?_
   refine (QbR hR ho hx).mono ?_
   rintro _ w2 ⟨hR2,-⟩
   exact K1 rfl _ hR2
 | cons y r' =>
   have hpl : p.length + (r'.length + 1) ≤ 65535:=by simpa using hkl
   refine Qp (by simp; omega) ?_
   have hd:=Ext.drew (Ext.refl No w1)
   have hbd:=hb.drew
   refine hbd.ld (v:=.int .u64 o) rfl ?_
   refine (hk.Q4 hd).rdK p.length (by simp) rfl fun p0 hkeep => ?_
   have hy : (p ++ y :: r')[p.length]'(by simp) = y:=by simp
   rw [hy] at hkeep ⊢
   refine hbd.ld (v:=mv mt) rfl ?_
   refine hbd.ld (v:=.int .u64 o) rfl ?_
   refine xi (r:=((p.length + 1 : Nat) : Int)) (by rw [QQ (by omega)]; omega) ?_
   refine (hk.Q4 hd).drop (p.length + 1) rfl (by simp) fun v' hv' => ?_
   have hv' : Bs w1.drew v' r':=by
    have e : (p ++ y :: r').drop (p.length + 1) = r':=by
     rw [show p ++ y :: r' = (p ++ [y]) ++ r' by simp,List.drop_left' (by simp)]
    rw [e] at hv'; exact hv'
   refine hbd.ld (v:=.int .u64 x) rfl ?_
   have hR1:=hR.Q4 hd
   refine (QbS hR1.cnt hv' (by omega) hx).mono ?_
   rintro _ w2 ⟨lf,rfl,htl,hlf,hm2,he2⟩
   have hlf : w1.heap.size ≤ lf:=hlf
   have hR2:=hR1.QBw he2 hm2
   have hz:=hR.ext.size
   refine ⟨hkeep _ ((hk.Q4 hd).mt he2 hR1.cnt),?_,?_⟩
   · have hb2:=hbd.ext he2 (hR1.cnt.ne hbd (by decide))
     show w2.cell? ⟨pb,1,none⟩ = _
     rw [hb2.cell]; rfl
   refine (QgG hR2 ho hu (c0:=y) rfl htl Sep.leaf (fun b hb => .inr (by rw [D6 hb]; omega)) (fun b hb => .inr (by rw [D6 hb.all]; omega)) (fun b hb hn => ?_) (fun c hc b hb hn => ?_) (fun c hc b hb hn => ?_)).mono ?_
   · have:=hR.lt hn; rw [D6 hb] at this; omega
   · have:=(hR.tree.2 c).lt hn; rw [D6 hb.all] at this; omega
   · have:=(hR.tree.2 c).lt hb.all; rw [D6 hn] at this; omega
   · rintro _ w3 ⟨Yb,hR3,QmM,QE,-⟩
     exact K2 y r' rfl _ _ _ hR3 QmM (((hd.mono fun _ _ h => h.elim).QI (he2.mono fun b _ h => .inl h)).QI (QE.mono fun b _ h => .inr h))
end
section
variable {w : World} {a ow o x : Nat} {part k : Key} {val : Option Nat} {ks : List Nat} {kids : UInt8 → T} {mt : Option Y3} {n : Nat} {vp vk : Value}
theorem Tree.Qdq (hl : (T.node a ow part val ks kids).ZJ) (hk : ks = []) : kids = fun _ => .nil:=by
 funext c
 have h:=hl.1.1 hk
 cases e : kids c with
 | nil => rfl
 | node a1 ow1 p1 v1 H9 Ve =>
   exfalso
   have h1:=(Zd (m:=fun c => (kids c).ptr) (c:=c)).2 (by simp only [e]; rfl)
   unfold cnt at h
   rw [List.length_eq_zero_iff.1 h] at h1
   cases h1
theorem Qoe (ht : Tree w (.node a ow part val ks kids)) (hs : (T.node a ow part val ks kids).Sep o) (hf : (T.node a ow part val ks kids).er.ZV) (hlf : (T.node a ow part val ks kids).ZJ) (hm : Mt w mt n) (ho : o ≠ 0) (hx : x < 18446744073709551616) (hvp : Bs w vp part) (hk : Bs w vk k) (hkl : k.length ≤ 65535)
  (hc : common part k < part.length ∨ (common part k = part.length ∧ ks = [] ∧ part.length < k.length)) :
  Q6 P BJ [QlH x o mt,(T.node a ow part val ks kids).v,vp,vk,.int .i64 (common part k : Nat)] w fun r' w' => ∃ t' n',r' = t'.v ∧ Rm w w' o (.node a ow part val ks kids) t' mt n n' k x:=by
 obtain ⟨p,q,r,Ng,hkk,hlen,QAc⟩:=Yf part k
 rw [← hlen] at hc ⊢
 have hshort:=ht.1.short
 subst hkk
 have hpl : p.length + r.length ≤ 65535:=by simpa using hkl
 have hql : part.length = p.length + q.length:=by rw [Ng]; simp
 refine Q1I ?_
 refine Qz fun pb w1 hpb hblk hz he => ?_
 have hblk : QZ w1 pb (Q5P x o mt) KS:=hblk
 have hblk1:=hblk.drew
 have hE1:=he.drew
 refine hblk1.ld (v:=mv mt) rfl ?_
 refine hblk1.ld (v:=.int .u64 o) rfl ?_
 refine (hvp.Q4 hE1).take p.length rfl (by omega) fun v' hv' => ?_
 have hv' : Bs w1.drew v' p:=by
  have e : part.take p.length = p:=by rw [Ng,List.take_left]
  rw [e] at hv'; exact hv'
 have hm1:=hm.Q4 hE1
 refine (Q2D (ow:=o) hm1 hv' (by omega)).mono ?_
 rintro _ w2 ⟨up,QcQ,rfl,hna,hu0,hfr,hm2,he2⟩
 have hz1 : w.heap.size ≤ w1.heap.size:=he.size
 have hfr : ∀ b,NX up QcQ b → w1.heap.size ≤ b:=hfr
 have hE2 : Ext (MX mt) w w2:=(hE1.mono fun _ _ h => h.elim).QI he2
 have ht2:=ht.YL hm hE2
 have Qug:=hvp.mt hE2 hm
 have hk2:=hk.mt hE2 hm
 have hblk2:=hblk1.ext he2 (hm1.ne hblk1 (by decide))
 have hz2 : w1.heap.size ≤ w2.heap.size:=he2.size
 have Qj6 : Tree w2 (.node up o p none QcQ fun _ => .nil):=⟨hna,fun _ => trivial⟩
 have QdI : ∀ b,(T.node up o p none QcQ fun _ => .nil).All b → w1.heap.size ≤ b:=fun b hb => by
  rcases hb with hb | ⟨c,hb⟩
  · exact hfr b hb
  · exact hb.elim
 have Qsg : (T.node up o p none QcQ fun _ => .nil).Sep o:=⟨fun _ => trivial,fun _ _ _ _ h => h.elim,fun _ _ _ _ h => h.elim,fun _ _ h => h.elim⟩
 cases q with
 | nil =>
   have hpe : part = p:=by rw [Ng]; simp
   subst hpe
   rcases hc with hc | ⟨-,hks,hrl⟩
   · simp at hql; omega
   have QdH:=Tree.Qdq hlf hks
   subst QdH
   obtain ⟨v0,rfl⟩ : ∃ v0,val = some v0:=by
    have h:=hf.1
    rw [if_pos (by show cnt _ = 0; simp [cnt,VG,T.er,E.opt])] at h
    exact Option.isSome_iff_exists.1 h
   have hv0:=ht.1.v64 v0 rfl
   obtain ⟨pva,Qv5,-⟩:=ht2.1.blk
   have hR0 : AJ w w2 o (.node a ow part (some v0) ks fun _ => .nil) (.node up o part none QcQ fun _ => .nil) mt (n + 1) :=
    ⟨Qj6,hE2.mono fun b _ h => .inl h,hm2,fun b hb => .inr (by have:=QdI b hb; omega),fun b hb => .inr (by have:=QdI b hb.all; omega),Qsg⟩
   refine xj (fun vs w' => AJ w w' o (.node a ow part (some v0) ks fun _ => .nil) (.node up o part (some v0) QcQ fun _ => .nil) mt (n + 1) ∧ QZ w' pb (Q5P x o mt) KS ∧ Bs w' vk (part ++ r) ∧ ∃ cs,QZ w' a cs JV) ?_ ?_
   · refine Qug.len ?_
     refine Qr (by simp) ?_
     refine (Cj ht2).mono ?_
     rintro _ w3 ⟨rfl,rfl⟩
     refine hblk2.ld (v:=.int .u64 o) rfl ?_
     refine (QbR hR0 ho hv0).mono ?_
     rintro _ w4 ⟨hR1,Zl⟩
     obtain ⟨pvu,hbu,-⟩:=hna.blk
     exact ⟨hR1,hblk2.ext Zl fun e => Qj6.not hblk2 Q6q (.inl (.inl e)),hk2.ext Zl (Qj6.nbX fun b hb => .inl (.inl hb)),_,Qv5.ext Zl fun e => by have:=hfr up (.inl rfl); have:=ht.lt (b:=a) (.inl (.inl rfl)); omega⟩
   · rintro vs g w3 ⟨hR1,hb3,hk3,csa,QAr⟩
     refine Qaz (K:=fun r' w' => ∃ t' n',r' = t'.v ∧ Rm w w' o (.node a ow part (some v0) ks fun _ => .nil) t' mt n n' (part ++ r) x) hR1 hu0 hb3 hk3 hkl (fun _ _ _ => rfl) ho hx (fun e => by rw [e] at hrl; simp at hrl) fun y r' hr w' lf Yb hR hne hE' => ?_
     subst hr
     refine ⟨_,n + 2,rfl,hR,?_,fun _ => ⟨iff_of_false hne ?_,fun d => ?_⟩,by have:=Q3I (a:=a) (ow:=ow) (part:=part) (val:=some v0) (ks:=ks) (kids:=fun _ => .nil) (k:=part ++ y :: r'); omega,fun q hq h => ⟨hq,fun d => ?_⟩,fun h => ⟨by omega,fun hg => ?_⟩,?_,.inr rfl,?_,fun hg => ?_,fun hw hg => ?_,fun _ hu => ⟨⟨.inl rfl,fun d => ?_⟩,rfl,fun c' r'' e' => ?_⟩⟩
     · show E.node part (some v0) (fun d => (Zt (fun _ => .nil) y (.node lf o r' (some x) [] fun _ => .nil) d).er) = G8 (.node part (some v0) fun _ => .nil) (part ++ y :: r') x
       rw [RI,Uf]
       rfl
     · rw [show (fun d => (Zt (fun _ => T.nil) y (.node lf o r' (some x) [] fun _ => .nil) d).ptr) = ptrs (Zt (fun _ => .nil) y (.node lf o r' (some x) [] fun _ => .nil)) from rfl,GG]
       intro h0
       have h1:=(Zd (m:=upd (ptrs fun _ => .nil) y (T.node lf o r' (some x) [] fun _ => .nil).ptr) (c:=y)).2 (by rw [upd_same]; rfl)
       unfold cnt at h0
       rw [List.length_eq_zero_iff.1 h0] at h1
       cases h1
     · unfold Zt; split
       · exact OV
       · trivial
     · unfold Zt; split
       · exact ⟨hq,fun _ => trivial⟩
       · trivial
     · exfalso
       have e : (T.node a ow part (some v0) ks fun _ => .nil).get (part ++ y :: r') = none:=Z8
       rw [e] at hg
       cases hg
     · refine fun a' ha' => ?_
       obtain rfl : a = a':=by simpa [T.ptr] using ha'
       refine ⟨_,_,QAr.ext hE' fun hx => ?_⟩
       rcases hx with hx | hx
       · exact hR1.cnt.ne QAr (by decide) hx
       · have:=hfr a (.inr hx); have:=ht.lt (b:=a) (.inl (.inl rfl)); omega
     · have h1:=WV o (fun _ => T.nil) y (.node lf o r' (some x) [] fun _ => .nil)
       have h2 : (T.nil).RJ o = 0:=rfl
       rw [Q2h,Q6p,h2] at h1
       rw [Jg,if_pos rfl]
       omega
     · exfalso
       have e : (T.node a ow part (some v0) ks fun _ => .nil).get (part ++ y :: r') = none:=Z8
       rw [e] at hg
       cases hg
     · exfalso
       have e : (T.node a ow part (some v0) ks fun _ => .nil).get (part ++ y :: r') = none:=Z8
       rw [e] at hg
       cases hg
     · unfold Zt; split
       · exact Q6v
       · trivial
     · obtain ⟨rfl,rfl⟩:=Q2o e'
       rw [Vo]; exact Q7j
 | cons x0 q' =>
   subst Ng
   have hql' : p.length + (q'.length + 1) ≤ 65535:=by simpa using hshort
   have hx0 : (p ++ x0 :: q')[p.length]'(by simp) = x0:=by simp
   refine xj (fun vs w' => ∃ u Q5M Qlm n3,AJ w w' o (.node a ow (p ++ x0 :: q') val ks kids) (.node up o p none Qlm (Zt (fun _ => .nil) x0 (.node u o q' val Q5M kids))) mt n3 ∧ Qlm ≠ [] ∧ QZ w' pb (Q5P x o mt) KS ∧ Bs w' vk (p ++ r) ∧ n3 ≤ n + 2 ∧ (o = ow → u = a ∧ n3 = n + 1) ∧ (Q5M = [] ↔ ks = [])) ?_ ?_
   · refine Qug.len ?_
     refine Qp (by simp; omega) ?_
     refine hblk2.ld (v:=mv mt) rfl ?_
     refine hblk2.ld (v:=.int .u64 o) rfl ?_
     refine (Q1C (AJ.start ht2 hs hm2).h ho).mono ?_
     rintro _ w3 ⟨u,Q5M,n3,rfl,hH3,hiff,QE,hle3,Un⟩
     have hd3:=Ext.drew (Ext.refl No w3)
     have hblk3:=(hblk2.ext QE (hm2.ne hblk2 (by decide))).drew
     have hR3:=(hH3.Q4 hd3).res rfl
     have QpV:=(Qug.mt QE hm2).Q4 hd3
     have hk3:=(hk2.mt QE hm2).Q4 hd3
     refine hblk3.ld (v:=.int .u64 o) rfl ?_
     refine xi (r:=((p.length + 1 : Nat) : Int)) (by rw [QQ (by omega)]; omega) ?_
     refine QpV.drop (p.length + 1) rfl (by simp) fun vq hvq => ?_
     have hvq : Bs w3.drew vq q':=by
      have e : (p ++ x0 :: q').drop (p.length + 1) = q':=by
       rw [show p ++ x0 :: q' = (p ++ [x0]) ++ q' by simp,List.drop_left' (by simp)]
      rw [e] at hvq; exact hvq
     refine (Qi5 hR3 ho hvq (by omega)).mono ?_
     rintro _ w4 ⟨hR4,Zl⟩
     have hd4:=Ext.drew (Ext.refl No w4)
     have Ni:=(hblk3.ext Zl (fun e => hR3.tree.not hblk3 Q6q (.inl (.inl e)))).drew
     have Qzx : NB w3.drew (· = u):=hR3.tree.nbX fun b hb => .inl (.inl hb)
     have hvp4:=(QpV.ext Zl Qzx).Q4 hd4
     have hk4:=(hk3.ext Zl Qzx).Q4 hd4
     have QdK:=hR4.Q4 hd4
     refine Ni.ld (v:=.int .u64 o) rfl ?_
     refine hvp4.rd p.length (by simp) rfl ?_
     rw [hx0]
     have hF : ∀ b,(T.node up o p none QcQ fun _ => .nil).All b → ¬ (MX mt b ∨ (T.node a ow (p ++ x0 :: q') val ks kids).Bt o b):=fun b hb hx => by
      rcases hx with hx | hx
      · exact Q79 Qj6 hm2 hb hx
      · have:=QdI b hb; have:=ht.lt hx.all; omega
     have Qv9 : AJ w w4.drew o (.node a ow (p ++ x0 :: q') val ks kids) (.node up o p none QcQ fun _ => .nil) mt n3 :=
      ⟨Qj6.ext QdK.ext (hm2.nb.or (Bt.nb ht2)) hF,(hE2.mono fun b _ h => .inl h).QI QdK.ext,QdK.cnt,fun b hb => .inr (by have:=QdI b hb; omega),fun b hb => .inr (by have:=QdI b hb.all; omega),Qsg⟩
     refine (QgG Qv9 ho hu0 (c0:=x0) (t2:=.node u o q' val Q5M kids) rfl QdK.tree QdK.sep (fun b hb => (QdK.all b hb).imp id fun h => by omega) (fun b hb => (QdK.foot b hb).imp id fun h => by omega) (fun b hb hn => ?_) (fun c _ b _ h => h.elim) (fun c _ b h _ => h.elim)).mono ?_
     · have h1:=hfr b hn
       have h2:=Qj6.lt (b:=b) (.inl hn)
       rcases QdK.all b hb with h3 | h3
       · have:=ht.lt h3; omega
       · omega
     · rintro _ w5 ⟨Qlm,hR5,hne5,ZR,-⟩
       exact ⟨u,Q5M,Qlm,n3,hR5,hne5,Ni.ext ZR fun hx => Qv9.tree.not Ni Q6q (.inl (.inr hx)),hk4.ext ZR (Qv9.tree.nbX fun b hb => .inl (.inr hb)),by omega,fun e => by obtain ⟨h1,-,h3⟩:=Un e; exact ⟨h1,h3⟩,hiff⟩
   · rintro vs g w6 ⟨u,Q5M,Qlm,n3,hR5,hne5,hb5,hk5,hn3,Un,hiff⟩
     have QzF : (T.node u o q' val Q5M kids).ZJ:=⟨by rw [hiff]; exact hlf.1,hlf.2⟩
     have hsp:=Q3I (a:=a) (ow:=ow) (part:=p ++ x0 :: q') (val:=val) (ks:=ks) (kids:=kids) (k:=p ++ r)
     have hdf : ∀ y r',r = y :: r' → x0 ≠ y:=fun y r' e => QAc x0 y q' r' rfl e
     have hget : (T.node a ow (p ++ x0 :: q') val ks kids).get (p ++ r) = none:=by
      cases r with
      | nil => rw [List.append_nil]; exact Hd
      | cons y r' => exact Vs (hdf y r' rfl).symm
     refine Qaz (K:=fun r' w' => ∃ t' n',r' = t'.v ∧ Rm w w' o (.node a ow (p ++ x0 :: q') val ks kids) t' mt n n' (p ++ r) x) hR5 hne5 hb5 hk5 hkl (fun y r' e => by rw [WJ _ _ (hdf y r' e).symm]) ho hx (fun e w' hR => ?_) fun y r' e w' lf Yb hR hne hE' => ?_
     · subst e
       refine ⟨_,n3,rfl,hR,?_,fun _ => ⟨iff_of_false hne5 (MU rfl),fun d => ?_⟩,by omega,fun q hq h => ⟨hq,fun d => ?_⟩,fun h => ⟨?_,fun hg => ?_⟩,Q6n hR ht hs hm fun e => ?_,.inr rfl,?_,fun hg => ?_,fun hw hg => ?_,fun _ hu => ⟨⟨.inl rfl,fun d => ?_⟩,rfl,fun c' r'' e' => ?_⟩⟩
       · show E.node p (some x) (fun d => (Zt (fun _ => .nil) x0 (.node u o q' val Q5M kids) d).er) = G8 (.node (p ++ x0 :: q') val fun d => (kids d).er) (p ++ []) x
         rw [OL (fun _ _ h => by cases h),Uf]
         rfl
       · unfold Zt; split
         · exact QzF
         · trivial
       · unfold Zt; split
         · exact ⟨hq,h.2⟩
         · trivial
       · have:=(Un h.1.symm).2; omega
       · rw [hget] at hg; cases hg
       · exact .inr ⟨x0,by rw [Vo]; exact .inl (.inl (Un e).1.symm)⟩
       · have h1:=WV o (fun _ => T.nil) x0 (.node u o q' val Q5M kids)
         have h2 : (T.nil).RJ o = 0:=rfl
         rw [Q6p,h2,Jg,if_pos rfl] at h1
         rw [Jg,Jg,if_pos rfl]
         omega
       · rw [hget] at hg; cases hg
       · rw [hget] at hg; cases hg
       · unfold Zt; split
         · exact ⟨.inl rfl,hu.2⟩
         · trivial
       · rw [List.append_nil] at e'
         exact (Qds e').elim
     · subst e
       have hxy:=hdf y r' rfl
       refine ⟨_,n3 + 1,rfl,hR,?_,fun _ => ⟨iff_of_false hne (MU rfl),fun d => ?_⟩,by omega,fun q hq h => ⟨hq,fun d => ?_⟩,fun h => ⟨?_,fun hg => ?_⟩,Q6n hR ht hs hm fun e => ?_,.inr rfl,?_,fun hg => ?_,fun hw hg => ?_,fun _ hu => ⟨⟨.inl rfl,fun d => ?_⟩,rfl,fun c' r'' e' => ?_⟩⟩
       · show E.node p none (fun d => (Zt (Zt (fun _ => .nil) x0 (.node u o q' val Q5M kids)) y (.node lf o r' (some x) [] fun _ => .nil) d).er) = G8 (.node (p ++ x0 :: q') val fun d => (kids d).er) (p ++ y :: r') x
         rw [OL (fun y' r'' h => by cases h; exact hxy),Uf,Uf]
         rfl
       · unfold Zt; split
         · exact OV
         · split
           · exact QzF
           · trivial
       · unfold Zt; split
         · exact ⟨hq,fun _ => trivial⟩
         · split
           · exact ⟨hq,h.2⟩
           · trivial
       · have:=(Un h.1.symm).2; omega
       · rw [hget] at hg; cases hg
       · exact .inr ⟨x0,by rw [WJ _ _ hxy,Vo]; exact .inl (.inl (Un e).1.symm)⟩
       · have h1:=WV o (fun _ => T.nil) x0 (.node u o q' val Q5M kids)
         have h2 : (T.nil).RJ o = 0:=rfl
         rw [Q6p,h2,Jg,if_pos rfl] at h1
         have h3:=WV o (Zt (fun _ => T.nil) x0 (.node u o q' val Q5M kids)) y (.node lf o r' (some x) [] fun _ => .nil)
         rw [WJ _ _ hxy.symm,h2,Q2h] at h3
         rw [Jg,Jg,if_pos rfl]
         split
         · rename_i how
           have:=(Un how.symm).2
           omega
         · omega
       · rw [hget] at hg; cases hg
       · rw [hget] at hg; cases hg
       · unfold Zt; split
         · exact Q6v
         · split
           · exact ⟨.inl rfl,hu.2⟩
           · trivial
       · obtain ⟨rfl,rfl⟩:=Q2o e'
         rw [Vo]; exact Q7j
end
theorem Qe1 {a b : Key} (h1 : common a b = a.length) (h2 : common a b = b.length) : a = b:=by
 obtain ⟨p,q,r,rfl,rfl,h3,-⟩:=Yf a b
 have hq : q = []:=List.length_eq_zero_iff.1 (by simp at h1; omega)
 have hr : r = []:=List.length_eq_zero_iff.1 (by simp at h2; omega)
 rw [hq,hr]
theorem Qgu {a b : Key} (h1 : common a b = a.length) : b = a ++ b.drop a.length:=by
 obtain ⟨p,q,r,rfl,rfl,h3,-⟩:=Yf a b
 have hq : q = []:=List.length_eq_zero_iff.1 (by simp at h1; omega)
 subst hq
 simp
theorem QqR {o x : Nat} {mt : Option Y3} (ho : o ≠ 0) (hx : x < 18446744073709551616) : ∀ t,Qtn o x mt t:=by
 intro t
 induction t with
 | nil => intro w vk k n _ _ _ _ hm hk hkl; exact (QvH hm hk hkl hx).mono fun _ _ ⟨t',h1,h2⟩ => ⟨t',_,h1,h2⟩
 | node a ow part val ks kids ih =>
   intro w vk k n ht hs hf hl hm hk hkl
   have hshort:=ht.1.short
   refine IJ ?_
   refine Qz fun pb w1 hpb hblk hz he => ?_
   have hblk : QZ w1 pb (Q5P x o mt) KS:=hblk
   refine Qp rfl ?_
   refine (XA (ht.Q4 he)).mono ?_
   rintro vp w2 ⟨hvp,he2⟩
   have hvp : Bs w2 vp part:=hvp
   have hE2:=he.Q0 he2
   refine (Hl hvp (hk.Q4 hE2) (by omega) (by omega)).mono ?_
   rintro _ w3 ⟨rfl,QE⟩
   have JD:=hE2.Q0 QE
   have ht3:=ht.Q4 JD
   have Dw:=hm.Q4 JD
   have hk3:=hk.Q4 JD
   have QpV:=hvp.Q4 QE
   have hblk3 : QZ w3 pb (Q5P x o mt) KS:=hblk.ext (he2.Q0 QE) fun h => h
   refine (Hg ht3).mono ?_
   rintro _ w4 ⟨rfl,rfl⟩
   have hkind : (T.node a ow part val ks kids).kind = 1 ↔ ks = []:=by
    show Yx ks (ptrs kids) = 1 ↔ _
    unfold Yx
    split
    · exact iff_of_true rfl (by assumption)
    · refine iff_of_false (fun h => ?_) (by assumption)
      have:=Nc (BR (ptrs kids))
      rw [h] at this
      revert this; decide
   have hcl:=Ed part k
   refine xj (fun vs w' => w4 = w' ∧ (common part k < part.length ∨ (common part k = part.length ∧ ks = [] ∧ part.length < k.length))) ?_ ?_
   · refine xj (fun vs w' => ∃ b,vs = [.bool b] ∧ w4 = w' ∧ (b = true ↔ common part k = part.length ∧ common part k = k.length)) ?_ ?_
     · refine hvp.len ?_
       refine Vu (fun e => ?_) fun e => ⟨false,rfl,rfl,by simp; omega⟩
       refine hk.len ?_
       exact ⟨_,rfl,rfl,by simp; omega⟩
     · rintro vs g w5 ⟨b,rfl,rfl,hb⟩
       cases b with
       | true =>
         obtain ⟨h1,h2⟩:=hb.1 rfl
         obtain rfl:=Qe1 h1 h2
         refine Qr rfl ?_
         refine hblk3.JH rfl ?_
         refine (QqS ht3 hs Dw ho hx).mono ?_
         rintro _ w6 ⟨t',n',rfl,hP⟩
         exact ⟨t',n',rfl,hP.from' JD⟩
       | false =>
         refine Qp rfl ?_
         refine hvp.len ?_
         refine ZF (fun h => ⟨rfl,.inl (by omega)⟩) fun h => ?_
         have e1 : common part k = part.length:=by omega
         have e2 : common part k ≠ k.length:=fun h => by have:=hb.2 ⟨e1,h⟩; cases this
         refine Vu (fun h1 => ⟨rfl,.inr ⟨e1,hkind.1 (by omega),by omega⟩⟩) fun h1 => ?_
         have hd:=Ext.drew (Ext.refl No w4)
         refine hblk3.drew.JH rfl ?_
         refine hk3.drop (common part k) rfl (by omega) fun v' hv' => ?_
         rw [e1] at hv'
         obtain ⟨c,r,hcr⟩ : ∃ c r,k.drop part.length = c :: r:=by
          cases e : k.drop part.length with
          | nil => have:=congrArg List.length e; simp at this; omega
          | cons c r => exact ⟨c,r,rfl⟩
         have hke:=Qgu e1
         rw [hcr] at hv' hke
         have hkl' : r.length ≤ 65535:=by rw [hke] at hkl; simp at hkl; omega
         refine (Qof (ih c) (ht3.Q4 hd) hs hf hl (fun e => h1 (by rw [hkind.2 e]; rfl)) (Dw.Q4 hd) ho (hv'.Q4 hd) hkl').mono ?_
         rintro _ w6 ⟨t',n',rfl,hP⟩
         rw [← hke] at hP
         exact ⟨t',n',rfl,hP.from' (JD.Q0 hd)⟩
   · rintro vs g w5 ⟨rfl,hc⟩
     refine hblk3.JH rfl ?_
     refine (Qoe ht3 hs hf hl Dw ho hx QpV hk3 hkl hc).mono ?_
     rintro _ w6 ⟨t',n',rfl,hP⟩
     exact ⟨t',n',rfl,hP.from' JD⟩
theorem QBK {w : World} {t : T} {o x n : Nat} {mt : Option Y3} {vk : Value} {k : Key} (ht : Tree w t) (hs : t.Sep o) (hf : t.er.ZV) (hl : t.ZJ) (hm : Mt w mt n) (ho : o ≠ 0) (hx : x < 18446744073709551616) (hk : Bs w vk k) (hkl : k.length ≤ 65535) :
  Q6 P Q3R [t.v,vk,.int .u64 x,.int .u64 o,mv mt] w fun r w' => ∃ t' n',r = .tuple #[t'.v,.int .i64 0] ∧ Rm w w' o t t' mt n n' k x ∧ (t.get k = some x → t' = t ∧ n' = n):=by
 refine Qk8 ?_
 refine Qp (by simp; omega) ?_
 refine (Qi6 hk).mono ?_
 rintro _ w1 ⟨rfl,rfl⟩
 rw [if_pos hkl]
 refine Qp rfl ?_
 refine (QsV hm.fl ht hk (by omega)).mono ?_
 rintro _ w2 ⟨rfl,he2⟩
 refine xj (fun vs w' => vs = [.bool (decide (t.get k = some x))] ∧ w2 = w') ?_ ?_
 · cases hg : t.get k with
   | none => exact Qp rfl ⟨by simp,rfl⟩
   | some v =>
     refine Qr rfl ⟨?_,rfl⟩
     show [Value.bool (((v : Nat) : Int) == ((x : Nat) : Int))] = _
     congr 2
     by_cases e : v = x
     · subst e; simp
     · rw [decide_eq_false (by simpa using e)]; exact beq_eq_false_iff_ne.2 (by omega)
 · rintro vs g w3 ⟨rfl,rfl⟩
   refine ZF (fun h => ?_) fun h => ?_
   · refine ⟨t,n,rfl,⟨(AJ.start (ht.Q4 he2) hs (hm.Q4 he2)).from' he2,?_,id,by omega,fun q _ h => h,fun _ => ⟨by omega,fun _ => ⟨rfl,rfl⟩⟩,fun a ha => ?_,.inl rfl,by omega,fun _ => Nat.le_refl _,fun _ _ => ⟨rfl,rfl⟩,fun hne => absurd h hne⟩,fun _ => ⟨rfl,rfl⟩⟩
     · exact E.unique hf (Qa7 hf) fun k' => by
        rw [Qd2]
        split
        · rename_i e; subst e; exact h
        · rfl
     · cases t with
       | nil => cases ha
       | node a1 ow1 p1 v1 H9 Ve =>
         obtain ⟨pv,hb,-⟩:=(ht.Q4 he2).1.blk
         obtain rfl : a1 = a:=by simpa [T.ptr] using ha
         exact ⟨_,_,hb⟩
   · refine (QqR (mt:=mt) ho hx t (ht.Q4 he2) hs hf hl (hm.Q4 he2) (hk.Q4 he2) hkl).mono ?_
     rintro _ w3 ⟨t',n',rfl,hP⟩
     exact ⟨t',n',rfl,hP.from' he2,fun e => absurd e h⟩
end Go.Proofs.YtbnhggfiembejaaGreatDoor
