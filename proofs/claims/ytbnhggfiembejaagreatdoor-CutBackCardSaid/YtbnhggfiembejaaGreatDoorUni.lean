import Derived.Test.YtbnhggfiembejaaGreatDoorSAu
import Derived.Test.YtbnhggfiembejaaGreatDoorPut
import Derived.Test.YtbnhggfiembejaaGreatDoorDet
import Derived.Test.YtbnhggfiembejaaGreatDoorG1
section
namespace Go.Proofs.YtbnhggfiembejaaGreatDoor
open Go Go.RowKit X
set_option linter.unusedSimpArgs false
set_option linter.unusedVariables false
set_option linter.unusedSectionVars false
def CF : Nat → Nat → Nat → Nat
 | 1,a,_ => a
 | 2,_,b => b
 | 3,a,b => (a + b) % 18446744073709551616
 | 4,a,b => min a b
 | _,a,b => max a b
def Qd6 : Nat → Value
 | 1 => .func (.func RU) #[] #[]
 | 2 => .func (.func RS) #[] #[]
 | 3 => .func (.func RQ) #[] #[]
 | 4 => .func (.func RP) #[] #[]
 | _ => .func (.func RO) #[] #[]
def QlK (p : Nat) : Bool:=p != 3
theorem Qkp {n : Nat} : IntKind.u64.wrap (n : Int) = ((n % 18446744073709551616 : Nat) : Int):=by
 simp [IntKind.wrap,IntKind.bits,IntKind.signed]
theorem QpF {p a b : Nat} (ha : a < 18446744073709551616) (hb : b < 18446744073709551616) : CF p a b < 18446744073709551616:=by
 unfold CF
 split <;> (try split) <;> first | omega | exact Nat.mod_lt _ (by omega)
theorem KD {w : World} {t T : TypeId} {g : Nat} {x y a b : Value} {K : World → Prop} (hg : QZ w g [x,y] T) (hi : (P.info? t).map (·.size) = some 2) (ha : a.oneCell' = true) (hb : b.oneCell' = true)
  (k : ∀ w',QZ w' g [a,b] T → w'.heap.size = w.heap.size → Ext (· = g) w w' → K w') : Yn P (storeVar t ⟨g,0,none⟩ (.agg #[a,b])) w K:=by
 refine JW (vs:=[a,b]) hg hi (by simp) (by simp [ha,hb]) fun w' h1 h2 h3 => k w' ?_ h2 h3
 simpa using h1
variable [Floor]
set_option maxRecDepth 100000 in
theorem QnX {w : World} {p a b : Nat} {K : Value → World → Prop} (hp : 1 ≤ p ∧ p ≤ 5) (ha : a < 18446744073709551616) (hb : b < 18446744073709551616) (k : ∀ w',Ext No w w' → K (.int .u64 (CF p a b)) w') :
  Ic (Qd6 p) [.int .u64 a,.int .u64 b] fun f xs => Ux P f xs w K:=by
 obtain ⟨h1,h5⟩:=hp
 have h : p = 1 ∨ p = 2 ∨ p = 3 ∨ p = 4 ∨ p = 5:=by omega
 rcases h with rfl | rfl | rfl | rfl | rfl
 · refine MF ?_
   refine XT (by kernel_rfl) ?_
   refine Q8k ?_
   exact k w (Ext.refl _ _)
 · refine MF ?_
   refine XT (by kernel_rfl) ?_
   refine Q8j ?_
   exact k w (Ext.refl _ _)
 · refine MF ?_
   refine XT (by kernel_rfl) ?_
   refine Q8i ?_
   refine xi (r:=((CF 3 a b : Nat) : Int)) (by rw [show (a : Int) + (b : Int) = ((a + b : Nat) : Int) by omega,Qkp]; rfl) ?_
   exact k w (Ext.refl _ _)
 · refine MF ?_
   refine XT (by kernel_rfl) ?_
   refine Q8h ?_
   have e : (if (b : Int) < (a : Int) then (b : Int) else (a : Int)) = ((CF 4 a b : Nat) : Int):=by
    show _ = ((min a b : Nat) : Int)
    split <;> omega
   have:=k w (Ext.refl _ _)
   rw [← e] at this
   exact this
 · refine MF ?_
   refine XT (by kernel_rfl) ?_
   refine Q8g ?_
   have e : (if (a : Int) < (b : Int) then (b : Int) else (a : Int)) = ((CF 5 a b : Nat) : Int):=by
    show _ = ((max a b : Nat) : Int)
    split <;> omega
   have:=k w (Ext.refl _ _)
   rw [← e] at this
   exact this
theorem QhS {w : World} {z : Int} : Q6 P G9 [.int .i64 z] w fun r w' => Ext No w w' ∧ ((∃ p : Nat,1 ≤ p ∧ p ≤ 5 ∧ z = p ∧ r = .tuple #[.agg #[Qd6 p,.bool (QlK p)],.int .i64 0]) ∨ (¬ (1 ≤ z ∧ z ≤ 5) ∧ r = .tuple #[.agg #[.nilFunc,.bool false],.int .i64 1])):=by
 refine Qc3 ?_
 refine Qz fun b w1 hb hblk hz he => ?_
 have hblk : QZ w1 b [.nilFunc,.bool false] Q8C:=hblk
 refine Vu (fun h => ?_) fun h1 => ?_
 · refine KD hblk (by kernel_rfl) rfl rfl fun w2 hb2 hz2 he2 => ?_
   exact hb2.JH rfl ⟨he.Z0 he2 (by omega),.inl ⟨1,by omega,by omega,h,rfl⟩⟩
 refine Vu (fun h => ?_) fun h2 => ?_
 · refine KD hblk (by kernel_rfl) rfl rfl fun w2 hb2 hz2 he2 => ?_
   exact hb2.JH rfl ⟨he.Z0 he2 (by omega),.inl ⟨2,by omega,by omega,h,rfl⟩⟩
 refine Vu (fun h => ?_) fun h3 => ?_
 · refine KD hblk (by kernel_rfl) rfl rfl fun w2 hb2 hz2 he2 => ?_
   exact hb2.JH rfl ⟨he.Z0 he2 (by omega),.inl ⟨3,by omega,by omega,h,rfl⟩⟩
 refine Vu (fun h => ?_) fun h4 => ?_
 · refine KD hblk (by kernel_rfl) rfl rfl fun w2 hb2 hz2 he2 => ?_
   exact hb2.JH rfl ⟨he.Z0 he2 (by omega),.inl ⟨4,by omega,by omega,h,rfl⟩⟩
 refine Vu (fun h => ?_) fun h5 => ?_
 · refine KD hblk (by kernel_rfl) rfl rfl fun w2 hb2 hz2 he2 => ?_
   exact hb2.JH rfl ⟨he.Z0 he2 (by omega),.inl ⟨5,by omega,by omega,h,rfl⟩⟩
 · refine KD hblk (by kernel_rfl) rfl rfl fun w2 hb2 hz2 he2 => ?_
   exact hb2.JH rfl ⟨he.Z0 he2 (by omega),.inr ⟨by omega,rfl⟩⟩
theorem Qi4 {w : World} {z : Int} {a b : Nat} (ha : a < 18446744073709551616) (hb : b < 18446744073709551616) : Q6 P Ga [.int .i64 z,.int .u64 a,.int .u64 b] w fun r w' => Ext No w w' ∧ ((∃ p : Nat,1 ≤ p ∧ p ≤ 5 ∧ z = p ∧ r = .tuple #[.int .u64 (CF p a b),.int .i64 0]) ∨ (¬ (1 ≤ z ∧ z ≤ 5) ∧ r = .tuple #[.int .u64 0,.int .i64 1])):=by
 refine Qc4 ?_
 refine QhS.mono ?_
 rintro r w1 ⟨he1,⟨p,h1,h5,rfl,rfl⟩ | ⟨hn,rfl⟩⟩
 · refine Qz fun g w2 hg hblk hz he2 => ?_
   refine KD hblk (by kernel_rfl) (by unfold Qd6; split <;> rfl) rfl fun w3 hb3 hz3 QE => ?_
   refine Qp rfl ?_
   refine hb3.ld (v:=Qd6 p) rfl ?_
   refine QnX ⟨h1,h5⟩ ha hb fun w4 Zl => ?_
   have hz1:=he1.size
   exact ⟨((he1.Q0 he2).Z0 QE (by omega)).Q0 Zl,.inl ⟨p,h1,h5,rfl,rfl⟩⟩
 · refine Qz fun g w2 hg hblk hz he2 => ?_
   refine KD hblk (by kernel_rfl) rfl rfl fun w3 hb3 hz3 QE => ?_
   refine Qr rfl ?_
   have hz1:=he1.size
   exact ⟨(he1.Q0 he2).Z0 QE (by omega),.inr ⟨hn,rfl⟩⟩
abbrev AA (t : T) (off : Nat) : Value:=.agg #[t.v,.int .i64 off]
abbrev Mr (p o : Nat) (mt : Option Y3) : Value:=.agg #[Qd6 p,.bool (QlK p),.int .u64 o,mv mt]
abbrev Ms (p o : Nat) (mt : Option Y3) : List Value:=[Qd6 p,.bool (QlK p),.int .u64 o,mv mt]
def W9 (off : Nat) : E → E
 | .nil => .nil
 | .node p v k => .node (p.drop off) v k
theorem XW {off : Nat} {e : E} (h : e.ZV) : (W9 off e).ZV:=by cases e with
 | nil => trivial
 | node => exact h
theorem Xq (e : E) : W9 0 e = e:=by cases e <;> rfl
section
variable {w : World} {t : T} {off p o n : Nat} {mt : Option Y3}
theorem Q0b (ht : Tree w t) (ho : off ≤ t.part.length) : Q6 P XX [AA t off] w fun r w' => Bs w' r (t.part.drop off) ∧ Ext No w w':=by
 refine Q4g ?_
 refine Qz fun b w1 hb hblk hz he => ?_
 have hblk : QZ w1 b [t.v,.int .i64 off] Qj:=hblk
 have hd:=he.drew
 refine hblk.drew.ld (v:=t.v) rfl ?_
 refine hblk.drew.ld (v:=.int .i64 off) rfl ?_
 refine (XA (ht.Q4 hd)).mono ?_
 rintro pv w2 ⟨hpv,he2⟩
 have hblk2:=hblk.drew.ext he2 fun h => h
 refine ⟨by show w2.cell? ⟨b,1,none⟩ = _; rw [hblk2.cell]; rfl,?_⟩
 exact hpv.drop off rfl ho fun v' hv' => ⟨hv',hd.Q0 he2⟩
theorem Gp (ht : Tree w t) : Q6 P Jo [AA t off] w fun r w' => r = .bool (((t.kind : Nat) : Int) == 1) ∧ Ext No w w':=by
 refine Q4h ?_
 refine Qz fun b w1 hb hblk hz he => ?_
 have hblk : QZ w1 b [t.v,.int .i64 off] Qj:=hblk
 refine hblk.ld (v:=t.v) rfl ?_
 refine (Hg (ht.Q4 he)).mono ?_
 rintro _ w2 ⟨rfl,rfl⟩
 exact ⟨rfl,he⟩
theorem Qo0 {c : UInt8} (ht : Tree w t) : Q6 P Fh [AA t off,bv c] w fun r w' => r = AA (t.kid c) 0 ∧ Ext No w w':=by
 refine Q5X ?_
 refine Qz fun b w1 hb hblk hz he => ?_
 have hblk : QZ w1 b [t.v,.int .i64 off] Qj:=hblk
 refine Qz fun b2 w2 hb2 hblk2 hz2 he2 => ?_
 have hblk2 : QZ w2 b2 [.pointer none,.int .i64 0] Qj:=hblk2
 refine (hblk.ext he2 fun h => h).ld (v:=t.v) rfl ?_
 refine (FI (ht.Q4 (he.Q0 he2))).mono ?_
 rintro _ w3 ⟨rfl,QE⟩
 refine KD (a:=(t.kid c).v) (b:=.int .i64 0) (hblk2.ext QE fun h => h) (by kernel_rfl) rfl rfl fun w4 hb4 Ro Zl => ?_
 have hz1:=he.size
 exact hb4.JH rfl ⟨rfl,((he.Q0 he2).Q0 QE).Z0 Zl (by omega)⟩
theorem IA {m : Nat} (h1 : off + m + 1 ≤ 4611686018427387904) : Q6 P X0 [AA t off,.int .i64 m] w fun r w' => r = AA t (off + m + 1) ∧ Ext No w w':=by
 refine Q1G ?_
 refine Qz fun b w1 hb hblk hz he => ?_
 have hblk : QZ w1 b [t.v,.int .i64 off] Qj:=hblk
 refine Qz fun b2 w2 hb2 hblk2 hz2 he2 => ?_
 have hblk2 : QZ w2 b2 [.pointer none,.int .i64 0] Qj:=hblk2
 have hblk1:=hblk.ext he2 fun h => h
 refine hblk1.ld (v:=t.v) rfl ?_
 refine hblk1.ld (v:=.int .i64 off) rfl ?_
 refine xi (r:=((off + m : Nat) : Int)) (by rw [QQ (by omega)]; omega) ?_
 refine xi (r:=((off + m + 1 : Nat) : Int)) (by rw [QQ (by omega)]; omega) ?_
 refine KD (a:=t.v) (b:=.int .i64 (off + m + 1 : Nat)) hblk2 (by kernel_rfl) rfl rfl fun w4 hb4 Ro Zl => ?_
 have hz1:=he.size
 exact hb4.JH rfl ⟨rfl,(he.Q0 he2).Z0 Zl (by omega)⟩
theorem QbK {a ow : Nat} {part : Key} {val : Option Nat} {ks : List Nat} {kids : UInt8 → T} (ht : Tree w (.node a ow part val ks kids)) (hm : Mt w mt n) (ho : o ≠ 0) (hoff : off ≤ part.length) :
  Q6 P JG [Mr p o mt,AA (.node a ow part val ks kids) off] w fun r w' => ∃ u Jw,r = rp u ∧ Tree w' (.node u o (part.drop off) val Jw kids) ∧ (Jw = [] ↔ ks = []) ∧ (∀ b,NX u Jw b → w.heap.size ≤ b) ∧ Mt w' mt (n + 1) ∧ Ext (MX mt) w w':=by
 have hshort:=ht.1.short
 refine Q0k ?_
 refine Qz fun jb w1 hjb hj hz he => ?_
 have hj : QZ w1 jb (Ms p o mt) Zy:=hj
 refine Qz fun eb w2 heb hE hz2 he2 => ?_
 have hE : QZ w2 eb [(T.node a ow part val ks kids).v,.int .i64 off] Qj:=hE
 have hj2:=hj.ext he2 fun h => h
 have JX:=he.Q0 he2
 have ht2:=ht.Q4 JX
 have hm2:=hm.Q4 JX
 refine hE.ld (v:=(T.node a ow part val ks kids).v) rfl ?_
 refine hj2.ld (v:=mv mt) rfl ?_
 refine hj2.ld (v:=.int .u64 o) rfl ?_
 refine (QgR (o:=o) ht2.1 hm2).mono ?_
 rintro _ w3 ⟨u,Jw,rfl,hna,hiff,hfr,Dw,QE⟩
 have Po:=hj2.ext QE (hm2.ne hj2 (by decide))
 have JD:=hE.ext QE (hm2.ne hE (by decide))
 have QyK:=JX.size
 have hz3:=QE.size
 have ht3 : Tree w3 (.node u o part val Jw kids):=⟨hna,fun c => (ht2.2 c).YL hm2 QE⟩
 have QAQ : Ext (MX mt) w w3:=(JX.mono fun _ _ h => h.elim).QI QE
 have hfr' : ∀ b,NX u Jw b → w.heap.size ≤ b:=fun b hb => by have:=hfr b hb; omega
 refine xj (fun vs w' => Tree w' (.node u o (part.drop off) val Jw kids) ∧ Mt w' mt (n + 1) ∧ Ext (MX mt) w w') ?_ ?_
 · refine JD.ld (v:=.int .i64 off) rfl ?_
   refine ZF (fun h => ?_) fun h => ?_
   · have hd:=Ext.drew (Ext.refl No w3)
     refine Po.drew.ld (v:=.int .u64 o) rfl ?_
     refine JD.drew.JH rfl ?_
     refine (Q0b (off:=off) (((ht2.YL hm2 QE)).Q4 hd) hoff).mono ?_
     rintro pv w4 ⟨hpv,Zl⟩
     have hpv : Bs w4 pv (part.drop off):=hpv
     have QmX:=hd.Q0 Zl
     have hj4:=Po.ext QmX fun h => h
     refine ⟨by show w4.cell? ⟨jb,2,none⟩ = _; rw [hj4.cell]; rfl,?_⟩
     have ht4:=ht3.Q4 QmX
     refine (Q1B ht4.1 ho rfl hpv (by rw [List.length_drop]; omega)).mono ?_
     rintro _ w5 ⟨QuD,ZR⟩
     obtain ⟨pv0,hbu,-⟩:=ht4.1.blk
     have hu:=hfr u (.inl rfl)
     refine ⟨⟨QuD,fun c => (ht4.2 c).ext ZR (ht4.nbX fun b hb => .inl (.inl hb)) fun b hb e => ?_⟩,(Dw.Q4 QmX).ext ZR fun b hb e => ?_,(QAQ.Q0 QmX).trans ZR fun b hb e => ?_⟩
     · have e : b = u:=e
       subst e
       have:=(ht2.2 c).lt hb
       omega
     · have e : b = u:=e
       subst e
       exact (Dw.Q4 QmX).ne hbu (by decide) hb
     · have e : b = u:=e
       subst e
       omega
   · have : off = 0:=by omega
     subst this
     rw [List.drop_zero]
     exact ⟨ht3,Dw,QAQ⟩
 · rintro vs g w4 ⟨h1,h2,h3⟩
   exact ⟨u,Jw,rfl,h1,hiff,hfr',h2,h3⟩
theorem Iz (ht : Tree w t) (hm : Mt w mt n) (ho : o ≠ 0) (hoff : off ≤ t.part.length) :
  Q6 P ZC [Mr p o mt,AA t off] w fun r w' => ∃ t' n',r = t'.v ∧ Tree w' t' ∧ t'.er = W9 off t.er ∧ (t.ZJ → t'.ZJ) ∧ (∀ b,t'.All b → t.All b ∨ w.heap.size ≤ b) ∧ Mt w' mt n' ∧ n' ≤ n + 1 ∧ (off = 0 → t' = t ∧ n' = n) ∧ Ext (MX mt) w w':=by
 refine SK ?_
 refine Qz fun jb w1 hjb hj hz he => ?_
 have hj : QZ w1 jb (Ms p o mt) Zy:=hj
 refine Qz fun eb w2 heb hE hz2 he2 => ?_
 have hE : QZ w2 eb [t.v,.int .i64 off] Qj:=hE
 have hj2:=hj.ext he2 fun h => h
 have JX:=he.Q0 he2
 refine hE.ld (v:=.int .i64 off) rfl ?_
 refine Vu (fun h => ?_) fun h => ?_
 · have : off = 0:=by omega
   subst this
   refine hE.ld (v:=t.v) rfl ?_
   exact ⟨t,n,rfl,ht.Q4 JX,(Xq _).symm,id,fun b h => .inl h,hm.Q4 JX,by omega,fun _ => ⟨rfl,rfl⟩,JX.mono fun _ _ h => h.elim⟩
 · cases t with
   | nil => exact absurd hoff (by show ¬ off ≤ 0; omega)
   | node a ow part val ks kids =>
     refine hj2.JH rfl ?_
     refine hE.JH rfl ?_
     refine (QbK (p:=p) (ht.Q4 JX) (hm.Q4 JX) ho hoff).mono ?_
     rintro _ w3 ⟨u,Jw,rfl,htr,hiff,hfr,Dw,QE⟩
     have QyK:=JX.size
     refine ⟨.node u o (part.drop off) val Jw kids,n + 1,rfl,htr,rfl,fun hl => ⟨by rw [hiff]; exact hl.1,hl.2⟩,fun b hb => ?_,Dw,by omega,fun h0 => absurd h0 (by omega),(JX.mono fun _ _ h => h.elim).QI QE⟩
     rcases hb with hb | hb
     · exact .inr (by have:=hfr b hb; omega)
     · exact .inl (.inr hb)
end
end Go.Proofs.YtbnhggfiembejaaGreatDoor
end
section
namespace Go.Proofs.YtbnhggfiembejaaGreatDoor
open Go Go.RowKit X
set_option linter.unusedSimpArgs false
set_option linter.unusedVariables false
set_option linter.unusedSectionVars false
def Zx (p : Nat) : Option Nat → Option Nat → Option Nat
 | some a,some b => some (CF p a b)
 | some a,none => some a
 | none,x => x
variable [Floor]
structure FN (w0 w : World) (u o : Nat) (q : Key) (val : Option Nat) (Jw : List Nat) (kids : UInt8 → T) (mt : Option Y3) (n : Nat) : Prop where
 tree : Tree w (.node u o q val Jw kids)
 fresh : ∀ b,NX u Jw b → w0.heap.size ≤ b
 apart : ∀ c b,(kids c).All b → ¬ NX u Jw b
 cnt : Mt w mt n
 ext : Ext (MX mt) w0 w
section
variable {w0 w : World} {u o : Nat} {q : Key} {val : Option Nat} {Jw : List Nat} {kids : UInt8 → T} {mt : Option Y3} {n : Nat}
theorem FN.go (h : FN w0 w u o q val Jw kids mt n) {w' : World} {n' : Nat} (e : Ext (MX mt) w w') (hm : Mt w' mt n') : FN w0 w' u o q val Jw kids mt n' :=
 ⟨h.tree.YL h.cnt e,h.fresh,h.apart,hm,h.ext.QI e⟩
theorem FN.Q4 (h : FN w0 w u o q val Jw kids mt n) {w' : World} (e : Ext No w w') : FN w0 w' u o q val Jw kids mt n:=h.go (e.mono fun _ _ h => h.elim) (h.cnt.Q4 e)
theorem FN.lt (h : FN w0 w u o q val Jw kids mt n) {b : Nat} (hb : NX u Jw b) : b < w.heap.size:=h.tree.lt (.inl hb)
theorem FN.nb (h : FN w0 w u o q val Jw kids mt n) {X : Nat → Prop} (hX : ∀ b,X b → NX u Jw b) : NB w X:=h.tree.nbX fun b hb => .inl (hX b hb)
theorem QgO (h : FN w0 w u o q val Jw kids mt n) (ho : o ≠ 0) {x : Nat} (hx : x < 18446744073709551616) : Q6 P Zu [rp u,.int .u64 o,.int .u64 x] w fun _ w' => FN w0 w' u o q (some x) Jw kids mt n ∧ Ext (· = u) w w':=by
 refine (QaA h.tree.1 ho rfl hx).mono ?_
 rintro r w' ⟨hna,he⟩
 refine ⟨⟨⟨hna,fun c => (h.tree.2 c).ext he (h.nb fun b hb => .inl hb) fun b hb e => h.apart c b hb (.inl e)⟩,h.fresh,h.apart,h.cnt.ext he fun b hb e => ?_,h.ext.trans he fun b hb e => ?_⟩,he⟩
 · have e : b = u:=e
   subst e
   exact Q79 h.tree h.cnt (.inl (.inl rfl)) hb
 · have e : b = u:=e
   subst e
   have:=h.fresh b (.inl rfl)
   omega
theorem Q4b (h : FN w0 w u o q val Jw kids mt n) (ho : o ≠ 0) (hne : Jw ≠ []) {c0 : UInt8} {t2 : T} {a2 : Nat} (hp : t2.ptr = some ⟨a2,0,none⟩) (ht2 : Tree w t2) (hd : ∀ b,t2.All b → ¬ NX u Jw b) :
  Q6 P QL [rp u,.int .u64 o,bv c0,rp a2] w fun _ w' => ∃ Yb,FN w0 w' u o q val Yb (Zt kids c0 t2) mt n ∧ Yb ≠ [] ∧ Ext (NX u Jw) w w' ∧ (∀ b,NX u Yb b → NX u Jw b ∨ w.heap.size ≤ b):=by
 refine (Q4a h.tree.1 ho rfl hne).mono ?_
 rintro r w' ⟨Yb,hna,hne',he,hsub⟩
 have he' : Ext (NX u Jw) w w':=he.mono fun b _ hb => .inr hb
 have hnb:=h.nb (X:=NX u Jw) fun b hb => hb
 have hz:=he.size
 have hz0:=h.ext.size
 have hNX : ∀ b,NX u Yb b → NX u Jw b ∨ w.heap.size ≤ b:=fun b hb => by
  rcases hb with hb | hb
  · exact .inl (.inl hb)
  · rcases hsub b hb with h1 | h1
    · exact .inl (.inr h1)
    · exact .inr h1
 have htk : ∀ c,Tree w (Zt kids c0 t2 c):=fun c => by
  unfold Zt; split
  · exact ht2
  · exact h.tree.2 c
 have hap : ∀ c b,(Zt kids c0 t2 c).All b → ¬ NX u Jw b:=fun c b hb => by
  unfold Zt at hb; split at hb
  · exact hd b hb
  · exact h.apart c b hb
 refine ⟨Yb,⟨⟨by rw [GG,hp]; exact hna,fun c => (htk c).ext he' hnb (hap c)⟩,fun b hb => ?_,fun c b hb hx => ?_,h.cnt.ext he' fun b hb hx => Q79 h.tree h.cnt (.inl hx) hb,h.ext.trans he' fun b hb hx => ?_⟩,hne',he',hNX⟩
 · rcases hNX b hb with h1 | h1
   · exact h.fresh b h1
   · omega
 · rcases hNX b hx with h1 | h1
   · exact hap c b hb h1
   · have:=(htk c).lt hb; omega
 · have:=h.fresh b hx; omega
end
section
variable {w : World} {a b : T} {p o n : Nat} {mt : Option Y3}
theorem Tree.v64 {t : T} (h : Tree w t) : t.val.getD 0 < 18446744073709551616:=by
 cases t with
 | nil => show 0 < _; omega
 | node a ow part val ks kids =>
   show val.getD 0 < _
   cases val with
   | none => show 0 < _; omega
   | some v => exact h.1.v64 v rfl
theorem Qe6 (ha : Tree w a) (hb : Tree w b) (hp : 1 ≤ p ∧ p ≤ 5) : Q6 P Xj [Mr p o mt,a.v,b.v] w fun r w' => r = QkP (Zx p a.val b.val) ∧ Ext No w w':=by
 refine SL ?_
 refine Qz fun jb w1 hjb hj hz he => ?_
 have hj : QZ w1 jb (Ms p o mt) Zy:=hj
 have hva:=ha.v64
 have hvb:=hb.v64
 refine (Cj (ha.Q4 he)).mono ?_
 rintro _ w2 ⟨rfl,rfl⟩
 refine (Cj (hb.Q4 he)).mono ?_
 rintro _ w3 ⟨rfl,rfl⟩
 refine xj (fun vs w' => vs = [.bool (a.val.isSome && b.val.isSome)] ∧ w3 = w') ?_ ?_
 · refine xif (fun h => ?_) fun h => ?_
   · exact ⟨by rw [h,Bool.true_and],rfl⟩
   · exact ⟨by rw [h,Bool.false_and],rfl⟩
 · rintro vs g w4 ⟨rfl,rfl⟩
   cases hav : a.val with
   | none =>
     refine Qp rfl ?_
     cases hbv : b.val with
     | none => exact Qp rfl ⟨rfl,he⟩
     | some y => exact Qr rfl ⟨rfl,he⟩
   | some x =>
     cases hbv : b.val with
     | none =>
       refine Qp rfl ?_
       exact Qp rfl ⟨rfl,he⟩
     | some y =>
       rw [hav] at hva
       rw [hbv] at hvb
       refine Qr rfl ?_
       refine hj.ld (v:=Qd6 p) rfl ?_
       refine QnX hp hva hvb fun w5 ZR => ?_
       exact ⟨rfl,he.Q0 ZR⟩
end
section
variable {w : World} {a b : T} {p o n oa ob : Nat} {mt : Option Y3}
theorem Q3Q {t : T} {off : Nat} (h : t ≠ .nil) {t' : T} (he : t'.er = W9 off t.er) : ∃ a2,t'.ptr = some ⟨a2,0,none⟩:=by
 cases t with
 | nil => exact absurd rfl h
 | node =>
   cases t' with
   | nil => cases he
   | node a2 => exact ⟨a2,rfl⟩
theorem QqG {vq : Value} {q : Key} {x y : UInt8} (ha : Tree w a) (hb : Tree w b) (hla : a.ZJ) (hlb : b.ZJ) (han : a ≠ .nil) (hbn : b ≠ .nil) (hm : Mt w mt n) (ho : o ≠ 0) (hq : Bs w vq q) (hql : q.length ≤ 65535) (hoa : oa ≤ a.part.length) (hob : ob ≤ b.part.length) (hxy : x ≠ y) :
  Q6 P AV [Mr p o mt,vq,bv x,AA a oa,bv y,AA b ob] w fun r w' => ∃ t' n',r = t'.v ∧ Tree w' t' ∧ t' ≠ .nil ∧ t'.er = .node q none (JU (JU Du x (W9 oa a.er)) y (W9 ob b.er)) ∧ t'.ZJ ∧ (∀ c,t'.All c → a.All c ∨ b.All c ∨ w.heap.size ≤ c) ∧ (∀ c,t'.ptr = some ⟨c,0,none⟩ → w.heap.size ≤ c) ∧ Mt w' mt n' ∧ Ext (MX mt) w w':=by
 refine Q0j ?_
 refine Qz fun jb w1 hjb hj hz1 he1 => ?_
 have hj : QZ w1 jb (Ms p o mt) Zy:=hj
 refine Qz fun ea w2 hea hA hz2 he2 => ?_
 have hA : QZ w2 ea [a.v,.int .i64 oa] Qj:=hA
 refine Qz fun eb w3 heb hB hz3 QE => ?_
 have hB : QZ w3 eb [b.v,.int .i64 ob] Qj:=hB
 have Po:=(hj.ext he2 fun h => h).ext QE fun h => h
 have hA3:=hA.ext QE fun h => h
 have JD:=(he1.Q0 he2).Q0 QE
 have hs3:=JD.size
 have Dw:=hm.Q4 JD
 refine Po.ld (v:=mv mt) rfl ?_
 refine Po.ld (v:=.int .u64 o) rfl ?_
 refine (Q2D (ow:=o) Dw (hq.Q4 JD) hql).mono ?_
 rintro _ w4 ⟨u,Jw,rfl,hna,hne,hfr,hm4,Zl⟩
 have hF : FN w3 w4 u o q none Jw (fun _ => .nil) mt (n + 1):=⟨⟨hna,fun _ => trivial⟩,hfr,fun c b h => h.elim,hm4,Zl⟩
 have hd4:=Ext.drew (Ext.refl No w4)
 have hF4:=hF.Q4 hd4
 have hj4:=(Po.ext Zl (Dw.ne Po (by decide))).drew
 have hA4:=(hA3.ext Zl (Dw.ne hA3 (by decide))).drew
 have hB4:=(hB.ext Zl (Dw.ne hB (by decide))).drew
 have ha4:=ha.YL hm ((JD.mono fun _ _ h => h.elim).QI hF4.ext)
 have hb4:=hb.YL hm ((JD.mono fun _ _ h => h.elim).QI hF4.ext)
 refine hj4.ld (v:=.int .u64 o) rfl ?_
 refine hj4.JH rfl ?_
 refine hA4.JH rfl ?_
 refine (Iz (p:=p) ha4 hF4.cnt ho hoa).mono ?_
 rintro _ w5 ⟨ta,n5,rfl,hta,QA9,hlta,QsF,hm5,-,-,ZR⟩
 have hF5:=hF4.go ZR hm5
 have hj5:=hj4.ext ZR (hF4.cnt.ne hj4 (by decide))
 have hB5:=hB4.ext ZR (hF4.cnt.ne hB4 (by decide))
 obtain ⟨a2,hpa⟩:=Q3Q han QA9
 have hva : ta.v = rp a2:=by show Value.pointer ta.ptr = _; rw [hpa]
 have halt : ∀ c,a.All c → c < w.heap.size:=fun c h => ha.lt h
 have hblt : ∀ c,b.All c → c < w.heap.size:=fun c h => hb.lt h
 have hda : ∀ c,ta.All c → ¬ NX u Jw c:=fun c hc hx => by
  have h1:=hF4.fresh c hx
  have h2:=hF4.lt hx
  rcases QsF c hc with h | h
  · have:=halt c h; omega
  · omega
 refine ⟨by show w5.cell? ⟨jb,2,none⟩ = _; rw [hj5.cell]; rfl,?_⟩
 rw [hva]
 refine (Q4b hF5 ho hne hpa hta hda).mono ?_
 rintro _ w6 ⟨QtW,hF6,QdC,Ke,hNX6⟩
 have hd6:=Ext.drew (Ext.refl No w6)
 have hjlt:=Po.lt
 have hBlt:=hB.lt
 have hj6:=(hj5.ext Ke fun h => by have:=hF5.fresh _ h; omega).drew
 have hB6:=(hB5.ext Ke fun h => by have:=hF5.fresh _ h; omega).drew
 have Qjq:=hF6.Q4 hd6
 have MC : Ext (MX mt) w w6.drew:=(JD.mono fun _ _ h => h.elim).QI Qjq.ext
 have hb6:=hb.YL hm MC
 refine hj6.ld (v:=.int .u64 o) rfl ?_
 refine hj6.JH rfl ?_
 refine hB6.JH rfl ?_
 refine (Iz (p:=p) hb6 Qjq.cnt ho hob).mono ?_
 rintro _ w7 ⟨tb,n7,rfl,htb,QA8,hltb,QsE,hm7,-,-,Yy⟩
 have hF7:=Qjq.go Yy hm7
 have hj7:=hj6.ext Yy (Qjq.cnt.ne hj6 (by decide))
 obtain ⟨b2,hpb⟩:=Q3Q hbn QA8
 have hvb : tb.v = rp b2:=by show Value.pointer tb.ptr = _; rw [hpb]
 have hdb : ∀ c,tb.All c → ¬ NX u QtW c:=fun c hc hx => by
  have h1:=Qjq.fresh c hx
  have h2:=Qjq.lt hx
  rcases QsE c hc with h | h
  · have:=hblt c h; omega
  · omega
 refine ⟨by show w7.cell? ⟨jb,2,none⟩ = _; rw [hj7.cell]; rfl,?_⟩
 rw [hvb]
 refine (Q4b hF7 ho QdC hpb htb hdb).mono ?_
 rintro _ w8 ⟨QtV,hF8,QuB,KJ,hNX8⟩
 have Ro : w3.heap.size ≤ w4.heap.size:=hF.ext.size
 have hz6 : w3.heap.size ≤ w6.heap.size:=hF6.ext.size
 refine ⟨.node u o q none QtV (Zt (Zt (fun _ => .nil) x ta) y tb),n7,rfl,hF8.tree,by simp,?_,⟨iff_of_false QuB (MU (by rw [hpb]; rfl)),fun d => ?_⟩,fun c hc => ?_,fun c hc => ?_,hF8.cnt,(JD.mono fun _ _ h => h.elim).QI hF8.ext⟩
 · show E.node q none (fun d => (Zt (Zt (fun _ => .nil) x ta) y tb d).er) = _
   rw [Uf,Uf,QA9,QA8]
   rfl
 · unfold Zt; split
   · exact hltb hlb
   · split
     · exact hlta hla
     · trivial
 · rcases hc with hc | ⟨d,hc⟩
   · exact .inr (.inr (by have:=hF8.fresh c hc; omega))
   · unfold Zt at hc; split at hc
     · rcases QsE c hc with h | h
       · exact .inr (.inl h)
       · exact .inr (.inr (by have : w6.heap.size ≤ c:=h; omega))
     · split at hc
       · rcases QsF c hc with h | h
         · exact .inl h
         · exact .inr (.inr (by have : w4.heap.size ≤ c:=h; omega))
       · exact hc.elim
 · obtain rfl : u = c:=by simpa [T.ptr] using hc
   have:=hF8.fresh u (.inl rfl)
   omega
end
end Go.Proofs.YtbnhggfiembejaaGreatDoor
end
section
namespace Go.Proofs.YtbnhggfiembejaaGreatDoor
open Go X
set_option linter.unusedSimpArgs false
set_option linter.unusedVariables false
set_option linter.unusedSectionVars false
theorem UY {p : Nat} {x : Option Nat} : Zx p x none = x:=by cases x <;> rfl
theorem XH {p : Nat} {x y : Option Nat} : (Zx p x y).isSome = (x.isSome || y.isSome):=by cases x <;> cases y <;> rfl
theorem QiI {p a : Nat} (h : p ≠ 3) : CF p a a = a:=by
 unfold CF
 split <;> first | rfl | omega | exact absurd rfl h
theorem QfM {p : Nat} {x : Option Nat} (h : p ≠ 3) : Zx p x x = x:=by
 cases x with
 | none => rfl
 | some a => show some (CF p a a) = _; rw [QiI h]
theorem Q6u {q q' : Key} {y : UInt8} {v : Option Nat} {k : UInt8 → E} (K : Key) : (E.node (q ++ y :: q') v k).get K = (E.node q none (JU Du y (.node q' v k))).get K:=by
 by_cases hp : q <+: K
 · obtain ⟨r,rfl⟩:=hp
   cases r with
   | nil => rw [List.append_nil,get_nil,Hd]
   | cons c s =>
     rw [Z8]
     by_cases hc : c = y
     · subst hc; rw [JI,Eb]
     · rw [ZN _ _ hc,Vs hc]; rfl
 · rw [J3 hp,J3 fun h => hp ((List.prefix_append q (y :: q')).trans h)]
theorem GZ {p : Nat} {q : Key} {va vb : Option Nat} {ka kb R : UInt8 → E} (h : ∀ c r,(R c).get r = Zx p ((ka c).get r) ((kb c).get r)) (K : Key) : (E.node q (Zx p va vb) R).get K = Zx p ((E.node q va ka).get K) ((E.node q vb kb).get K):=by
 by_cases hp : q <+: K
 · obtain ⟨r,rfl⟩:=hp
   cases r with
   | nil => rw [List.append_nil,get_nil,get_nil,get_nil]
   | cons c s => rw [Z8,Z8,Z8]; exact h c s
 · rw [J3 hp,J3 hp,J3 hp]; rfl
theorem Q6r (c : UInt8) (r : Key) : (Du c).get r = none:=rfl
theorem QfN {p : Nat} {q p' q' : Key} {x y : UInt8} {va vb : Option Nat} {ka kb : UInt8 → E} (hxy : x ≠ y) (K : Key) :
  (E.node q none (JU (JU Du x (.node p' va ka)) y (.node q' vb kb))).get K = Zx p ((E.node (q ++ x :: p') va ka).get K) ((E.node (q ++ y :: q') vb kb).get K):=by
 rw [Q6u (q:=q) (q':=p') (y:=x),Q6u (q:=q) (q':=q') (y:=y)]
 refine GZ (va:=none) (vb:=none) (fun c r => ?_) K
 by_cases hy : c = y
 · subst hy
   rw [JI,JI,ZN _ _ (Ne.symm hxy),Q6r]; rfl
 · rw [ZN _ _ hy,ZN Du _ hy,Q6r,UY]
theorem Qdh {p : Nat} {q q' : Key} {y : UInt8} {va vb : Option Nat} {ka kb : UInt8 → E} {e : E} (h : ∀ r,e.get r = Zx p ((ka y).get r) ((E.node q' vb kb).get r)) (K : Key) :
  (E.node q va (JU ka y e)).get K = Zx p ((E.node q va ka).get K) ((E.node (q ++ y :: q') vb kb).get K):=by
 rw [Q6u (q:=q) (q':=q') (y:=y)]
 have:=GZ (p:=p) (q:=q) (va:=va) (vb:=none) (ka:=ka) (kb:=JU Du y (.node q' vb kb)) (R:=JU ka y e) (fun c r => ?_) K
 · rw [UY] at this; exact this
 · by_cases hy : c = y
   · subst hy; rw [JI,JI]; exact h r
   · rw [ZN _ _ hy,ZN _ _ hy,Q6r,UY]
theorem Qb7 {p : Nat} {q q' : Key} {y : UInt8} {va vb : Option Nat} {ka kb : UInt8 → E} {e : E} (h : ∀ r,e.get r = Zx p ((E.node q' vb kb).get r) ((ka y).get r)) (K : Key) :
  (E.node q va (JU ka y e)).get K = Zx p ((E.node (q ++ y :: q') vb kb).get K) ((E.node q va ka).get K):=by
 rw [Q6u (q:=q) (q':=q') (y:=y)]
 have:=GZ (p:=p) (q:=q) (va:=none) (vb:=va) (ka:=JU Du y (.node q' vb kb)) (kb:=ka) (R:=JU ka y e) (fun c r => ?_) K
 · exact this
 · by_cases hy : c = y
   · subst hy; rw [JI,JI]; exact h r
   · rw [ZN _ _ hy,ZN _ _ hy,Q6r]; rfl
theorem QjA {q : Key} {x y : UInt8} {ea eb : E} (hxy : x ≠ y) (ha : ea.ZV) (hb : eb.ZV) (ha0 : ea ≠ .nil) (hb0 : eb ≠ .nil) : (E.node q none (JU (JU Du x ea) y eb)).ZV:=by
 have hsa : ea.opt.isSome = true:=by cases ea with
  | nil => exact absurd rfl ha0
  | node => rfl
 have hsb : eb.opt.isSome = true:=by cases eb with
  | nil => exact absurd rfl hb0
  | node => rfl
 have h1:=Df Du x ea
 have h2:=Df (JU Du x ea) y eb
 rw [Iy,if_pos hsa,if_neg (by show ¬ (E.nil.opt).isSome = true; decide)] at h1
 rw [ZN _ _ (Ne.symm hxy),if_pos hsb,if_neg (by show ¬ (E.nil.opt).isSome = true; decide)] at h2
 refine Ws (fun h => by omega) (fun _ => by omega) fun c => ?_
 unfold JU; split
 · exact hb
 · split
   · exact ha
   · trivial
end Go.Proofs.YtbnhggfiembejaaGreatDoor
end
section
namespace Go.Proofs.YtbnhggfiembejaaGreatDoor
open Go Go.RowKit X
set_option linter.unusedSimpArgs false
set_option linter.unusedVariables false
set_option linter.unusedSectionVars false
def Qu6 (p : Nat) (a : Kv) (x : Key × Nat) : Nat:=match look a x.1 with | some w => CF p w x.2 | none => x.2
def QiP (p : Nat) (a b : Kv) : Kv:=b.map fun x => (x.1,Qu6 p a x)
def Cz (p : Nat) (a b : Kv) : Kv:=Kj (a ++ QiP p a b)
theorem Qma (p : Nat) (a b : Kv) (k : Key) : look (QiP p a b) k = match look b k with | none => none | some v => Zx p (look a k) (some v):=by
 induction b with
 | nil => rfl
 | cons x r ih =>
   show (if x.1 = k then some (Qu6 p a x) else look (QiP p a r) k) = match (if x.1 = k then some x.2 else look r k) with | none => none | some v => Zx p (look a k) (some v)
   by_cases h : x.1 = k
   · rw [if_pos h,if_pos h]
     subst h
     unfold Qu6
     cases look a x.1 <;> rfl
   · rw [if_neg h,if_neg h]; exact ih
theorem Q3V (l m : Kv) (k : Key) : N9 (l ++ m) k = (N9 m k).or (N9 l k):=by
 unfold N9
 rw [List.reverse_append,H5]
theorem QfL {p : Nat} {a b : Kv} (h : Zp b) : Zp (QiP p a b):=List.pairwise_map.2 h
theorem WA {p : Nat} {a b : Kv} (ha : Zp a) (hb : Zp b) (k : Key) : look (Cz p a b) k = Zx p (look a k) (look b k):=by
 unfold Cz
 rw [OJ,Q3V,VE (QfL hb),VE ha,Qma]
 cases look b k with
 | none => rw [UY]; rfl
 | some v => cases look a k <;> rfl
theorem OE (p : Nat) (a b : Kv) : Zp (Cz p a b):=C9 _
theorem Qdg (p : Nat) (a b : Kv) : (QiP p a b).length = b.length:=by simp [QiP]
theorem Q00 [Floor] {p : Nat} {a b : Kv} (ha : Pr a) (hb : Pr b) (h : a.length + b.length ≤ 100000) : Pr (Cz p a b):=by
 refine Pr.sort (by rw [List.length_append,Qdg]; exact h) fun x hx => ?_
 rcases List.mem_append.1 hx with h | h
 · exact ha.keys x h
 · obtain ⟨y,hy,rfl⟩:=List.mem_map.1 h
   exact hb.keys y hy
end Go.Proofs.YtbnhggfiembejaaGreatDoor
end
