import Derived.Test.YtbnhggfiembejaaGreatDoorC27
import Derived.Test.YtbnhggfiembejaaGreatDoorCut
section
namespace Go.Proofs.YtbnhggfiembejaaGreatDoor
open Go Go.RowKit X
set_option linter.unusedSimpArgs false
set_option linter.unusedVariables false
set_option linter.unusedSectionVars false
variable [Floor]
structure S2 (w w' : World) (va vb : Value) (la lb : Kv) : Prop where
 a : SB w w.heap.size w' Qx va la
 b : SB w w.heap.size w' Qx vb lb
 ne : ∀ c,va.ownBlock = some c → vb.ownBlock ≠ some c
 ext : Ext No w w'
theorem S2.nil (w : World) : S2 w w (.slice none 0 0) (.slice none 0 0) [] []:=⟨SB.nil _ _ _ _,SB.nil _ _ _ _,(fun c h => by cases h),Ext.refl _ _⟩
theorem S2.swap {w w' : World} {va vb : Value} {la lb : Kv} (h : S2 w w' va vb la lb) : S2 w w' vb va lb la:=⟨h.b,h.a,fun c h1 h2 => h.ne c h2 h1,h.ext⟩
theorem S2.Q4 {w w' w'' : World} {va vb : Value} {la lb : Kv} (h : S2 w w' va vb la lb) (e : Ext No w' w'') : S2 w w'' va vb la lb:=⟨h.a.Q4 e,h.b.Q4 e,h.ne,h.ext.Q0 e⟩
theorem S2.push {w w' : World} {va vb kv : Value} {la lb : Kv} {p : Key × Nat} (h : S2 w w' va vb la lb) (hk : Bs w kv p.1) (hp : p.2 < 18446744073709551616) (hl : la.length ≤ 100000) {K : Value → World → Prop}
  (k : ∀ va' w'',S2 w w'' va' vb (la ++ [p]) lb → K va' w'') : Qs w' [kv,u64 p.2] Qx fun a w1 => Jv P (Builtin.append_ #[YP,YP] YP #[va,.slice (some a) 1 1]) w1 K:=by
 refine Qz fun c w1 hc hbl hz he => ?_
 have hsl : Sl w1 (tyQ Qx) (.slice (some ⟨c,0,none⟩) 1 1) 2 1 [kv,u64 p.2]:=hbl.sln rfl
 obtain ⟨cells,h1,h2⟩:=h.a
 obtain ⟨cells2,h3,h4⟩:=h.b
 have hE1:=h.ext.Q0 he
 have hone : ∀ u ∈ [kv,u64 p.2],u.oneCell' = true:=fun u hu => by
  simp only [List.mem_cons,List.mem_nil_iff,or_false] at hu
  rcases hu with rfl | rfl
  · exact hk.R9
  · rfl
 refine Vi Mv (h1.Q4 he) hE1.size hsl hone (by omega) (by omega) fun v' w2 ho hE _ hb => ?_
 have h3':=(h3.Q4 he).ext hE fun b hb1 hb2 => h.ne b hb2 hb1
 refine k v' w2 ⟨⟨_,?_,h2.app (PC.Q24 hk hp)⟩,⟨_,h3',h4⟩,fun b hb1 hb2 => ?_,hE1.own (h1.Q4 he) (Nat.le_refl _) hE⟩
 · rw [List.length_append]; exact ho
 · rcases hb b hb1 with h5 | h5
   · exact h.ne b h5 hb2
   · have:=(h3.ge hb2).2
     have:=he.size
     omega
section
variable {w : World} {va vb kv : Value} {l m : Kv} {k : Key}
theorem EG (p : Key → Bool) (l : Kv) (i : Nat) (hi : i < l.length) : Ja p (l.take (i + 1)) = Ja p (l.take i) ++ if p l[i].1 then [l[i]] else []:=by
 rw [← List.take_append_getElem hi,QfB]
theorem QgA (ha : Ps w va l) (hk : Bs w kv k) (hl : l.length ≤ 100000) (hkk : ∀ x ∈ l,x.1.length ≤ 65535) :
  Q6 P Mk [va,kv] w fun r w' => ∃ v1 v2,r = .tuple #[v1,v2] ∧ Ps w' v1 (Yz false k l) ∧ Ps w' v2 (Yz true k l) ∧ Ext No w w':=by
 refine Q9y ?_
 refine JN (fun n vs w' => ∃ (i : Nat) (v1 v2 : Value),vs = [.int .i64 i,v1,v2] ∧ n = l.length - i ∧ i ≤ l.length ∧ S2 w w' v1 v2 (Yz false k (l.take i)) (Yz true k (l.take i))) l.length
  ⟨0,_,_,rfl,rfl,by omega,S2.nil w⟩ ?_
 rintro n vs g w1 ⟨i,v1,v2,rfl,rfl,hi,h2⟩
 unfold NU
 refine ha.len ?_
 refine ZF (fun hlt => ?_) fun hge => ?_
 · have hil : i < l.length:=by omega
   have htl : (l.take i).length = i:=by rw [List.length_take]; omega
   have la : (Yz false k (l.take i)).length ≤ _:=WK (Q2z false k) (l.take i)
   have lb : (Yz true k (l.take i)).length ≤ _:=WK (Q2z true k) (l.take i)
   refine xj (fun vs w' => ∃ v1' v2' : Value,vs = [v1',v2'] ∧ S2 w w' v1' v2' (Yz false k (l.take (i + 1))) (Yz true k (l.take (i + 1)))) ?_ ?_
   · refine (ha.Q4 h2.ext).key i rfl hil fun kv' Wq => ?_
     refine (Q49 Wq (hk.Q4 h2.ext) (by have:=hkk _ (List.getElem_mem hil); omega)).mono ?_
     rintro _ w2 ⟨rfl,he2⟩
     have h2':=h2.Q4 he2
     refine ZF (fun h => ?_) fun h => ?_
     · have e1 : decide (Xr l[i].1 k) = true:=decide_eq_true h
       rw [Yz,Yz,EG _ _ _ hil,EG _ _ _ hil,Vg,Xm,e1]
       refine ha.rd0 h2'.ext i rfl hil fun kv' Wq => ?_
       obtain ⟨ad,cp,rfl⟩:=Wq.slice
       refine S2.push h2' (p:=l[i]) Wq (ha.get hil) (by omega) fun v1' w3 h3 => ?_
       exact ⟨_,_,rfl,by simpa using h3⟩
     · have e1 : decide (Xr l[i].1 k) = false:=decide_eq_false h
       rw [Yz,Yz,EG _ _ _ hil,EG _ _ _ hil,Vg,Xm,e1]
       refine ha.rd0 h2'.ext i rfl hil fun kv' Wq => ?_
       obtain ⟨ad,cp,rfl⟩:=Wq.slice
       refine S2.push h2'.swap (p:=l[i]) Wq (ha.get hil) (by omega) fun v1' w3 h3 => ?_
       exact ⟨_,_,rfl,by simpa using h3.swap⟩
   · rintro vs g w2 ⟨v1',v2',rfl,h3⟩
     refine xi (r:=((i + 1 : Nat) : Int)) (by rw [QQ (by omega)]; omega) ?_
     exact JP (l.length - (i + 1)) (by omega) ⟨i + 1,_,_,rfl,rfl,by omega,h3⟩
 · have : i = l.length:=by omega
   subst this
   rw [List.take_length] at h2
   exact ⟨_,_,rfl,h2.a.ps h2.ext (.inr rfl),h2.b.ps h2.ext (.inr rfl),h2.ext⟩
theorem QjP {fv tv : Value} {f t : Key} {op : Bool} (ha : Ps w va l) (hf : Bs w fv f) (ht : Bs w tv t) (hfl : f.length ≤ 1000000) (hl : l.length ≤ 100000) (hkk : ∀ x ∈ l,x.1.length ≤ 65535) :
  Q6 P Gb [va,spV fv tv op] w fun r w' => ∃ v1 v2,r = .tuple #[v1,v2] ∧ Ps w' v1 (Ja (KM f t op) l) ∧ Ps w' v2 (Ja (Fe f t op) l) ∧ Ext No w w':=by
 refine Qc5 ?_
 refine Qz fun sb w0 hsb hS hz0 he0 => ?_
 have hS : QZ w0 sb [fv,tv,.bool op] Xc:=hS
 have ha0:=ha.Q4 he0
 refine JN (fun n vs w' => ∃ (i : Nat) (v1 v2 : Value),vs = [.int .i64 i,v1,v2] ∧ n = l.length - i ∧ i ≤ l.length ∧ S2 w0 w' v1 v2 (Ja (KM f t op) (l.take i)) (Ja (Fe f t op) (l.take i))) l.length
  ⟨0,_,_,rfl,rfl,by omega,S2.nil w0⟩ ?_
 rintro n vs g w1 ⟨i,v1,v2,rfl,rfl,hi,h2⟩
 unfold PH
 refine ha.len ?_
 refine ZF (fun hlt => ?_) fun hge => ?_
 · have hil : i < l.length:=by omega
   have htl : (l.take i).length = i:=by rw [List.length_take]; omega
   have la:=WK (KM f t op) (l.take i)
   have lb:=WK (Fe f t op) (l.take i)
   refine xj (fun vs w' => ∃ v1' v2' : Value,vs = [v1',v2'] ∧ S2 w0 w' v1' v2' (Ja (KM f t op) (l.take (i + 1))) (Ja (Fe f t op) (l.take (i + 1)))) ?_ ?_
   · have hd:=Ext.drew (Ext.refl No w1)
     refine (hS.ext h2.ext fun h => h).drew.JH rfl ?_
     have h1d:=(he0.Q0 h2.ext).Q0 hd
     refine (ha.Q4 h1d).key i rfl hil fun kv' Wq => ?_
     refine Q6.mono (show Q6 P Io [spV fv tv op,kv'] w1.drew _ from QnW Wq (hf.Q4 h1d) (ht.Q4 h1d) (by have:=hkk _ (List.getElem_mem hil); omega) hfl) ?_
     rintro _ w2 ⟨rfl,he2⟩
     have h2':=(h2.Q4 hd).Q4 he2
     cases hc : KM f t op l[i].1 with
     | true =>
       refine Qr rfl ?_
       have hc' : Fe f t op l[i].1 = false:=by show (!KM f t op l[i].1) = false; rw [hc]; rfl
       rw [EG _ _ _ hil,EG _ _ _ hil,hc,hc']
       refine ha0.rd0 h2'.ext i rfl hil fun kv' Wq => ?_
       obtain ⟨ad,cp,rfl⟩:=Wq.slice
       refine S2.push h2' (p:=l[i]) Wq (ha.get hil) (by omega) fun v1' w3 h3 => ?_
       exact ⟨_,_,rfl,by simpa using h3⟩
     | false =>
       refine Qp rfl ?_
       have hc' : Fe f t op l[i].1 = true:=by show (!KM f t op l[i].1) = true; rw [hc]; rfl
       rw [EG _ _ _ hil,EG _ _ _ hil,hc,hc']
       refine ha0.rd0 h2'.ext i rfl hil fun kv' Wq => ?_
       obtain ⟨ad,cp,rfl⟩:=Wq.slice
       refine S2.push h2'.swap (p:=l[i]) Wq (ha.get hil) (by omega) fun v1' w3 h3 => ?_
       exact ⟨_,_,rfl,by simpa using h3.swap⟩
   · rintro vs g w2 ⟨v1',v2',rfl,h3⟩
     refine xi (r:=((i + 1 : Nat) : Int)) (by rw [QQ (by omega)]; omega) ?_
     exact JP (l.length - (i + 1)) (by omega) ⟨i + 1,_,_,rfl,rfl,by omega,h3⟩
 · have : i = l.length:=by omega
   subst this
   rw [List.take_length] at h2
   exact ⟨_,_,rfl,h2.a.ps h2.ext (.inr rfl),h2.b.ps h2.ext (.inr rfl),he0.Q0 h2.ext⟩
theorem QjQ (ha : Ps w va l) (hb : Ps w vb m) (hl : l.length ≤ 100000) (hm : m.length ≤ 100000) (hkk : ∀ x ∈ l,x.1.length ≤ 65535) :
  Q6 P OO [va,vb] w fun r w' => ∃ v1,r = .tuple #[v1,.int .i64 (Yk l m : Nat)] ∧ (Yk l m = 0 → Ps w' v1 (l ++ m)) ∧ Ext No w w':=by
 refine Qc6 ?_
 have hd:=Ext.drew (Ext.refl No w)
 refine xj (fun vs w' => vs = [.bool (decide (Yk l m ≠ 0))] ∧ Ext No w w') ?_ ?_
 · refine ha.len ?_
   refine ZF (fun h1 => ?_) fun h1 => ?_
   · refine hb.len ?_
     refine ZF (fun h2 => ?_) fun h2 => ?_
     · refine ha.len ?_
       have hl1 : l.length - 1 < l.length:=by omega
       have hm1 : 0 < m.length:=by omega
       refine xi (r:=((l.length - 1 : Nat) : Int)) (by rw [QQ (by omega)]; omega) ?_
       refine (ha.Q4 hd).key (l.length - 1) rfl hl1 fun k1 hk1 => ?_
       refine (hb.Q4 hd).key 0 rfl hm1 fun k2 hk2 => ?_
       refine (Q49 hk1 hk2 (by have:=hkk _ (List.getElem_mem hl1); omega)).mono ?_
       rintro _ w2 ⟨rfl,he2⟩
       have e1 : l.getLast? = some l[l.length - 1]:=by rw [List.getLast?_eq_getElem?,List.getElem?_eq_getElem hl1]
       have e2 : m.head? = some m[0]:=by rw [List.head?_eq_getElem?,List.getElem?_eq_getElem hm1]
       have e : Yk l m = if Xr l[l.length - 1].1 m[0].1 then 0 else 12:=by unfold Yk; rw [e1,e2]
       refine ⟨?_,hd.Q0 he2⟩
       show [Value.bool (decide (Uv l[l.length - 1].1 m[0].1 ≥ 0))] = _
       rw [e]
       by_cases hk : Xr l[l.length - 1].1 m[0].1
       · rw [if_pos hk,decide_eq_false fun h => Q2q.1 h hk]; rfl
       · rw [if_neg hk,decide_eq_true (Q2q.2 hk)]; rfl
     · have e : Yk l m = 0:=by
        have : m = []:=List.eq_nil_of_length_eq_zero (by omega)
        unfold Yk; rw [this]; cases l.getLast? <;> rfl
       exact ⟨by rw [e]; rfl,hd⟩
   · have e : Yk l m = 0:=by
      have : l = []:=List.eq_nil_of_length_eq_zero (by omega)
      unfold Yk; rw [this]; rfl
     exact ⟨by rw [e]; rfl,hd⟩
 rintro vs g w1 ⟨rfl,he1⟩
 have hE : Yk l m = 0 ∨ Yk l m = 12:=by
  unfold Yk
  split
  · split
    · exact .inl rfl
    · exact .inr rfl
  · exact .inl rfl
 refine ZF (fun h => ?_) fun h => ?_
 · have e12 : Yk l m = 12:=hE.resolve_left h
   rw [e12]
   exact ⟨_,rfl,(fun h => by cases h),he1⟩
 · have e0 : Yk l m = 0:=Decidable.byContradiction h
   rw [e0]
   obtain ⟨T1,c1,hT1,s1,p1⟩:=ha.Q4 he1
   obtain ⟨T2,c2,hT2,s2,p2⟩:=hb.Q4 he1
   refine SB.app (m:=l) Mv (SB.nil w1 w1.heap.size w1 Qx) (Nat.le_refl _) s1 p1 (by simp; omega) fun v1 w2 h2 hex2 => ?_
   have he2:=hex2 w1 (Ext.refl _ _) (Nat.le_refl _)
   refine SB.app (m:=m) Mv h2 he2.size (s2.Q4 he2) p2 (by simp; omega) fun v2 w3 h3 hex3 => ?_
   have QE:=hex3 w1 he2 (Nat.le_refl _)
   exact ⟨v2,rfl,fun _ => by simpa using h3.ps QE (.inr rfl),he1.Q0 QE⟩
theorem Qeh {q : Key} {c : UInt8} (hfl : Floor.n ≤ w.heap.size) (hk : Bs w kv (q ++ [c])) (hc : c.toNat < 255) (hq : q.length ≤ 100000) : Q6 P Bz [kv] w fun r w' => ∃ fv tv,r = spV fv tv false ∧ Bs w' fv (q ++ [c]) ∧ Bs w' tv (q ++ [UInt8.ofNat (c.toNat + 1)]) ∧ Ext No w w':=by
 refine Q6d ?_
 refine Qz fun sb w1 hsb hS hz he1 => ?_
 have hS : QZ w1 sb [.slice none 0 0,.slice none 0 0,.bool false] XR:=hS
 have hk1:=hk.Q4 he1
 have hn : Q6 P S9 [kv] w1 fun r w' => ∃ tv,r = .tuple #[tv,.bool true] ∧ Bs w' tv (q ++ [UInt8.ofNat (c.toNat + 1)]) ∧ Ext No w1 w':=by
  have hll : (q ++ [c]).length = q.length + 1:=by simp
  refine QeU ?_
  refine hk1.len ?_
  refine JN (fun n vs w' => vs = [.int .i64 ((q ++ [c]).length : Nat)] ∧ w' = w1) 0 ⟨rfl,rfl⟩ ?_
  rintro n vs g w2 ⟨rfl,rfl⟩
  unfold TM
  refine xj (fun vs w' => vs = [.bool false] ∧ w' = w2) ?_ ?_
  · refine ZF (fun h => ?_) fun h => absurd (by omega) h
    refine xi (r:=((q.length : Nat) : Int)) (by rw [QQ (by omega)]; omega) ?_
    refine hk1.rd q.length (by simp) rfl ?_
    refine ⟨?_,rfl⟩
    rw [List.getElem_append_right (Nat.le_refl _)]
    simp
    omega
  rintro vs g w3 ⟨rfl,rfl⟩
  refine Qp rfl ?_
  refine Vu (fun h => absurd h (by omega)) fun _ => ?_
  refine hk1.take (q ++ [c]).length rfl (Nat.le_refl _) fun v2 hv2 => ?_
  rw [List.take_length] at hv2
  refine (Qov hv2 (by omega)).mono ?_
  rintro v3 w4 ⟨ho,Zl⟩
  refine xi (r:=((q.length : Nat) : Int)) (by rw [QQ (by omega)]; omega) ?_
  have hb3 : Bs w4 v3 (q ++ [c]):=Bs.of ho.sl
  refine hb3.rd q.length (by simp) rfl ?_
  have e0 : (q ++ [c])[q.length]'(by simp) = c:=by rw [List.getElem_append_right (Nat.le_refl _)]; simp
  rw [e0]
  refine xi (r:=((c.toNat + 1 : Nat) : Int)) (by rw [Rv (by omega)]; omega) ?_
  rw [Q82 (by omega)]
  refine X.Own.st ho q.length rfl (by omega) rfl fun w5 ho5 hz5 ZR => ?_
  have hs : ((q ++ [c]).map bv).set q.length (bv (UInt8.ofNat (c.toNat + 1))) = (q ++ [UInt8.ofNat (c.toNat + 1)]).map bv:=by
   rw [List.map_append,List.map_append,List.set_append_right _ _ (by simp)]
   simp
  rw [hs] at ho5
  refine ⟨v3,rfl,Bs.of (bs:=q ++ [UInt8.ofNat (c.toNat + 1)]) (by simpa using ho5.sl),Zl.trans ZR fun b hb h => ?_⟩
  have:=(X.Own.lt ho h)
  have h2:=(ho.ge h).1
  omega
 refine hn.mono ?_
 rintro _ w2 ⟨tv,rfl,htv,he2⟩
 have hE2:=he1.Q0 he2
 refine Vi Uq (Own.nil w2 w2.heap.size Qm 1) (Nat.le_refl _) (hk.Q4 hE2) (by simp only [List.mem_map]; rintro u ⟨c,-,rfl⟩; rfl) (by simp; omega) (by simp; omega) fun fv w3 hfv QE _ _ => ?_
 have QE : Ext No w2 w3:=QE.mono fun _ _ h => by cases h
 have QzZ : Bs w3 fv (q ++ [c]):=Bs.of (by simpa using hfv.sl)
 have Qz3:=htv.Q4 QE
 obtain ⟨a1,c1,rfl⟩:=QzZ.slice
 obtain ⟨a2,c2,rfl⟩:=Qz3.slice
 refine JW (vs:=[.slice a1 (q ++ [c]).length c1,.slice a2 (q ++ [UInt8.ofNat (c.toNat + 1)]).length c2,.bool false]) ((hS.ext he2 fun h => h).ext QE fun h => h) (by kernel_rfl) (by simp) ?_ fun w4 hb4 Ro Zl => ?_
 · intro u hu
   simp only [List.mem_cons,List.mem_nil_iff,or_false] at hu
   rcases hu with rfl | rfl | rfl <;> rfl
 have Qv6 : QZ w4 sb [.slice a1 (q ++ [c]).length c1,.slice a2 (q ++ [UInt8.ofNat (c.toNat + 1)]).length c2,.bool false] XR:=by simpa using hb4
 have hsp : NB w3 (· = sb):=fun b hb' _ => by
  have e : b = sb:=hb'
  subst e
  exact ⟨by omega,_,_,(hS.ext he2 fun h => h).ext QE fun h => h,by decide⟩
 refine Qv6.JH rfl ⟨_,_,rfl,QzZ.ext Zl hsp,Qz3.ext Zl hsp,(hE2.Q0 QE).Z0 Zl (by omega)⟩
namespace H7
theorem Q7U {fv tv : Value} {f t : Key} {op : Bool} (hf : Bs w fv f) (ht : Bs w tv t) : Q6 P YH [spV fv tv op] w fun r w' => r = spV fv tv op ∧ Ext No w w':=by
 refine Qce ?_
 refine Qz fun sb w1 hsb hS hz he1 => ?_
 have hS : QZ w1 sb [fv,tv,.bool op] Xc:=hS
 refine Qz fun rb w2 hrb hR hz2 he2 => ?_
 have hS2:=hS.ext he2 fun h => h
 refine hS2.ld (o:=0) (v:=fv) rfl ?_
 refine hS2.ld (o:=1) (v:=tv) rfl ?_
 refine hS2.ld (o:=2) (v:=.bool op) rfl ?_
 obtain ⟨a1,c1,rfl⟩:=hf.slice
 obtain ⟨a2,c2,rfl⟩:=ht.slice
 refine JW (vs:=[.slice a1 f.length c1,.slice a2 t.length c2,.bool op]) hR (by kernel_rfl) (by simp) ?_ fun w4 hb4 Ro Zl => ?_
 · intro u hu
   simp only [List.mem_cons,List.mem_nil_iff,or_false] at hu
   rcases hu with rfl | rfl | rfl <;> rfl
 have Qv6 : QZ w4 rb [.slice a1 f.length c1,.slice a2 t.length c2,.bool op] XR:=by simpa using hb4
 exact Qv6.JH rfl ⟨rfl,(he1.Q0 he2).Z0 Zl (by have:=he1.size; omega)⟩
end H7
end
end Go.Proofs.YtbnhggfiembejaaGreatDoor
end
section
namespace Go.Proofs.YtbnhggfiembejaaGreatDoor
open Go Go.RowKit X
set_option linter.unusedSimpArgs false
set_option linter.unusedVariables false
set_option linter.unusedSectionVars false
variable [Floor]
namespace H7
abbrev la : Kv:=[([1],5),([1,2],6),([2],7)]
theorem H8 : Pr la:=⟨by decide +kernel,by intro p hp; simp at hp; rcases hp with rfl | rfl | rfl <;> simp,by simp⟩
section
variable {w : World} {v va vb kv : Value} {l m : Kv} {k : Key}
set_option maxHeartbeats 1000000 in
theorem XL (hw : Lw w) : Q6 P Jy [] w fun r w' => r = .bool true ∧ Ext No w w':=by
 refine Q9B ?_
 show Qs w (([1] : Key).map bv) Qm _
 refine Qz fun a1 w1 ha1 hb1 hz1 he1 => ?_
 show Qs w1 (([1,2] : Key).map bv) Qm _
 refine Qz fun a2 w2 ha2 hb2 hz2 he2 => ?_
 show Qs w2 (([2] : Key).map bv) Qm _
 refine Qz fun a3 w3 ha3 hb3 hz3 QE => ?_
 have h1 : Bs w3 (.slice (some ⟨a1,0,none⟩) 1 1) [1]:=((Bs.new (k:=[1]) hb1).Q4 he2).Q4 QE
 have h2 : Bs w3 (.slice (some ⟨a2,0,none⟩) 2 2) [1,2]:=(Bs.new (k:=[1,2]) hb2).Q4 QE
 have h3 : Bs w3 (.slice (some ⟨a3,0,none⟩) 1 1) [2]:=Bs.new (k:=[2]) hb3
 show Qs w3 ([.slice (some ⟨a1,0,none⟩) 1 1,u64 5] ++ ([.slice (some ⟨a2,0,none⟩) 2 2,u64 6] ++ [.slice (some ⟨a3,0,none⟩) 1 1,u64 7])) Qx _
 refine Qz fun a4 w4 ha4 hb4 Ro Zl => ?_
 have U9:=((he1.Q0 he2).Q0 QE).Q0 Zl
 have hps : Ps w4 (.slice (some ⟨a4,0,none⟩) 3 3) la:=Ps.Qm2 (l:=la) hb4 (((PC.Q24 h1 (by omega)).app ((PC.Q24 h2 (by omega)).app (PC.Q24 h3 (by omega)))).Q4 Zl)
 refine (Bc hps H8 (hw.Q4 U9) (ow:=1) (by omega)).mono ?_
 rintro r w5 ⟨t,rfl,ct,-,-,-,ZR⟩
 have WX:=U9.Q0 ZR
 show Qs w5 (([1,2] : Key).map bv) Qm _
 refine Qz fun a6 w6 ha6 hb6 hz6 Ke => ?_
 have MC:=WX.Q0 Ke
 have hw6:=hw.Q4 MC
 have hk : Bs w6 (.slice (some ⟨a6,0,none⟩) 2 2) [1,2]:=Bs.new (k:=[1,2]) hb6
 refine (QvF (o:=2) (ct.Q4 Ke) H8 hk (by simp) hw6.Ra (by omega)).mono ?_
 rintro _ w7 ⟨x1,x2,rfl,cx1,cx2,Yy⟩
 have e1 : Yz false [1,2] la = [([1],5)]:=by decide +kernel
 have e2 : Yz true [1,2] la = [([1,2],6),([2],7)]:=by decide +kernel
 rw [e1] at cx1
 rw [e2] at cx2
 have p1 : Pr [(([1] : Key),5)]:=⟨by decide +kernel,by intro p hp; simp at hp; rw [hp]; simp,by simp⟩
 have p2 : Pr [(([1,2] : Key),6),(([2] : Key),7)]:=⟨by decide +kernel,by intro p hp; simp at hp; rcases hp with rfl | rfl <;> simp,by simp⟩
 have hw7:=hw6.Q4 Yy
 refine (Qr3 (o:=3) (n:=0) (mt:=none) cx1 p1 cx2 p2 hw7.Ra (by omega)).mono ?_
 rintro _ w8 ⟨x3,n3,rfl,J⟩
 have KJ : Ext No w7 w8:=J.ext
 have ej : Yk [(([1] : Key),5)] [(([1,2] : Key),6),(([2] : Key),7)] = 0:=by decide +kernel
 have cx3 : Ct w8 x3 la:=J.ct ej
 rw [ej]
 show Qs w8 (([1] : Key).map bv) Qm _
 refine Qz fun a9 w9 ha9 hb9 hz9 Ym => ?_
 have h59:=((Ke.Q0 Yy).Q0 KJ).Q0 Ym
 have OA:=WX.Q0 h59
 have hw9:=hw.Q4 OA
 have hk9 : Bs w9 (.slice (some ⟨a9,0,none⟩) 1 1) ([] ++ [1]):=Bs.new (k:=[1]) hb9
 refine (Qeh (c:=1) hw9.fl hk9 (by decide) (by simp)).mono ?_
 rintro _ Dn ⟨f1,t1,rfl,hf1,ht1,J9⟩
 have Q7F:=h59.Q0 J9
 have Que:=hw9.Q4 J9
 refine (QgQ (o:=2) (n:=0) (mt:=none) (ct.Q4 Q7F) H8 hf1 ht1 (by simp) (by simp) Que.Ra (by omega)).mono ?_
 rintro _ AL ⟨x4,n4,rfl,C⟩
 have K9 : Ext No Dn AL:=C.ext
 have e4 : Ja (Fe ([] ++ [1]) ([] ++ [UInt8.ofNat ((1 : UInt8).toNat + 1)]) false) la = [([2],7)]:=by decide +kernel
 have cx4:=C.ct
 rw [e4] at cx4
 show Qs AL (([1,2] : Key).map bv) Qm _
 refine Qz fun a12 Rw ha12 Qjh QyK JX => ?_
 have Q7E:=(Q7F.Q0 K9).Q0 JX
 have Dp:=hw.Q4 (WX.Q0 Q7E)
 have hk12 : Bs Rw (.slice (some ⟨a12,0,none⟩) 2 2) ([1] ++ [2]):=Bs.new (k:=[1,2]) Qjh
 refine (Qeh (c:=2) Dp.fl hk12 (by decide) (by simp)).mono ?_
 rintro _ w13 ⟨f2,t2,rfl,hf2,ht2,XK⟩
 have Qng:=Q7E.Q0 XK
 have Qj5:=Dp.Q4 XK
 refine (Qoo (o:=2) (n:=0) (mt:=none) (ct.Q4 Qng) H8 hf2 ht2 (by simp) (by simp) Qj5.Ra (by omega)).mono ?_
 rintro _ w14 ⟨x5,n5,rfl,Q⟩
 have UZ : Ext No w13 w14:=Q.ext
 have e5 : Ja (KM ([1] ++ [2]) ([1] ++ [UInt8.ofNat ((2 : UInt8).toNat + 1)]) false) la = [([1,2],6)]:=by decide +kernel
 have cx5:=Q.ct
 rw [e5] at cx5
 have Qgi:=Qng.Q0 UZ
 have QpU:=Qj5.Q4 UZ
 have Qvk:=((((((KJ.Q0 Ym).Q0 J9).Q0 K9).Q0 JX).Q0 XK).Q0 UZ)
 refine (Qr3 (o:=3) (n:=0) (mt:=none) (cx2.Q4 Qvk) p2 (cx1.Q4 Qvk) p1 QpU.Ra (by omega)).mono ?_
 rintro _ w15 ⟨x6,n6,rfl,J2⟩
 have Db : Ext No w14 w15:=J2.ext
 have ej2 : Yk [(([1,2] : Key),6),(([2] : Key),7)] [(([1] : Key),5)] = 12:=by decide +kernel
 rw [ej2]
 have h715:=Qvk.Q0 Db
 have Qmq:=QpU.Q4 Db
 have Qvy:=cx1.Q4 h715
 have h815:=(((((Ym.Q0 J9).Q0 K9).Q0 JX).Q0 XK).Q0 UZ).Q0 Db
 have QnG:=cx3.Q4 h815
 have ct':=ct.Q4 (Qgi.Q0 Db)
 have Qvx:=cx4.Q4 (((JX.Q0 XK).Q0 UZ).Q0 Db)
 have Qvw:=cx5.Q4 Db
 have s1 : x1.er.shape = [76,48,49,61,53]:=by rw [Qvy.can.closed (List.pairwise_singleton _ _)]; decide +kernel
 have s4 : x4.er.shape = [76,48,50,61,55]:=by rw [Qvx.can.closed (List.pairwise_singleton _ _)]; decide +kernel
 have s5 : x5.er.shape = [76,48,49,48,50,61,54]:=by rw [Qvw.can.closed (List.pairwise_singleton _ _)]; decide +kernel
 have s3 : x3.er.shape = t.er.shape:=by rw [QnG.can.uniq ct'.can]
 refine xj (fun vs w' => vs = [.bool true] ∧ Ext No w w') ?_ ?_
 · refine (Xt Qmq.tab Qvy.tree Qvy.QR (by rw [s1]; simp)).mono ?_
   rintro r w16 ⟨rfl,Q1v⟩
   rw [s1]
   refine Q6I ?_
   refine Qr (decide_eq_true rfl) ?_
   refine Qr rfl ?_
   refine (Xt (Qmq.Q4 Q1v).tab (QnG.Q4 Q1v).tree QnG.QR (QnG.tree.Vw QnG.can H8.rises H8.many)).mono ?_
   rintro r w17 ⟨rfl,Q7A⟩
   have h17:=Q1v.Q0 Q7A
   refine (Xt (Qmq.Q4 h17).tab (ct'.Q4 h17).tree ct'.QR (ct'.tree.Vw ct'.can H8.rises H8.many)).mono ?_
   rintro r w18 ⟨rfl,Qbp⟩
   have h18:=h17.Q0 Qbp
   refine Q6I ?_
   refine Qr (decide_eq_true s3) ?_
   refine Qr rfl ?_
   refine (Xt (Qmq.Q4 h18).tab (Qvx.Q4 h18).tree Qvx.QR (by rw [s4]; simp)).mono ?_
   rintro r w19 ⟨rfl,Qga⟩
   have h19:=h18.Q0 Qga
   rw [s4]
   refine Q6I ?_
   refine Qr (decide_eq_true rfl) ?_
   refine Qr rfl ?_
   refine (Xt (Qmq.Q4 h19).tab (Qvw.Q4 h19).tree Qvw.QR (by rw [s5]; simp)).mono ?_
   rintro r w20 ⟨rfl,QmY⟩
   rw [s5]
   refine Q6I ?_
   refine Qr (decide_eq_true rfl) ?_
   refine Qr rfl ?_
   exact ⟨rfl,((WX.Q0 Qgi).Q0 Db).Q0 (h19.Q0 QmY)⟩
 · rintro vs g w4 ⟨rfl,he⟩
   exact ⟨rfl,he⟩
theorem Qdo (hw : Lw w) {o : Nat} (hl : Ps w v l) (hk : Bs w kv k) (h64 : o < 18446744073709551616) : Q6 P Jt [v,kv,.int .u64 o] w fun r w' => r = .bool true ∧ Ext No w w':=by
 refine Q2Z ?_
 refine xj (fun vs w' => ∃ b,vs = [.bool b] ∧ Ext No w w' ∧ (b = false → l.length ≤ 200 ∧ (∀ p ∈ l,p.1.length ≤ 300) ∧ k.length ≤ 600)) ?_ ?_
 · refine (Q7W (m:=200) hl (by omega)).mono ?_
   rintro r w1 ⟨b,rfl,he1,hb⟩
   cases b with
   | true => exact Qr rfl ⟨true,rfl,he1,fun h => by cases h⟩
   | false =>
     refine Qp rfl ?_
     refine hk.len ?_
     refine ⟨_,rfl,he1,fun h => ⟨(hb rfl).1,(hb rfl).2,?_⟩⟩
     have:=of_decide_eq_false h
     omega
 rintro vs g w1 ⟨b,rfl,he1,hb⟩
 cases b with
 | true =>
   refine Qr rfl ?_
   refine (XL (hw.Q4 he1)).mono ?_
   rintro r w3 ⟨rfl,QE⟩
   exact ⟨rfl,he1.Q0 QE⟩
 | false =>
   refine Qp rfl ?_
   obtain ⟨l2,l3,k6⟩:=hb rfl
   have hpr : Pr (Kj l):=Pr.sort (by omega) fun p h => by have:=l3 p h; omega
   have QdF : (Kj l).length ≤ 200:=Nat.le_trans (Yd l) l2
   refine (BB (hl.Q4 he1) (by omega) (fun p h => by have:=l3 p h; omega)).mono ?_
   rintro vl w3 ⟨hso,QE⟩
   have hps:=hso.ps QE (.inr rfl)
   have JD:=he1.Q0 QE
   generalize Kj l = m at hpr hso hps QdF
   refine (Bc hps hpr (hw.Q4 JD) (ow:=1) (by omega)).mono ?_
   rintro r w4 ⟨t,rfl,hct,-,-,-,Zl⟩
   have U9:=JD.Q0 Zl
   have hw4:=hw.Q4 U9
   refine Qz fun mb w6 hmb Iu hz6 Ke => ?_
   have hm6 : Mt w6 (some mb) 0:=hw4.Q7a hmb Iu Ke
   have MC:=U9.Q0 Ke
   have hw6:=hw4.Q4 Ke
   refine Qz fun mc w7 hmc Q7w hz7 Yy => ?_
   have hc7 : Mt w7 (some mc) 0:=hw6.Q7a hmc Q7w Yy
   have hm7:=hm6.Q4 Yy
   have BA:=MC.Q0 Yy
   have hw7:=hw6.Q4 Yy
   have h47:=Ke.Q0 Yy
   have Qn1:=hct.Q4 h47
   have Qur:=hps.Q4 (Zl.Q0 h47)
   have hk7:=hk.Q4 BA
   have Q9l : w.heap.size ≤ mb:=by have:=U9.size; omega
   have QmO : w.heap.size ≤ mc:=by have:=MC.size; omega
   have hne : mb ≠ mc:=by omega
   by_cases ho : o = 0
   · subst ho
     refine Qc1.mono ?_
     rintro _ w8 ⟨rfl,KJ⟩
     refine Qib.mono ?_
     rintro _ w9 ⟨rfl,Ym⟩
     refine QqO.mono ?_
     rintro _ Dn ⟨rfl,J9⟩
     refine Qr rfl ?_
     have Qgh:=(KJ.Q0 Ym).Q0 J9
     refine xj (fun vs w' => vs = [.bool true] ∧ Ext No w w') ?_ ?_
     · refine Ka T.nil ?_
       refine Qr rfl ?_
       refine Ka T.nil ?_
       refine Qr rfl ?_
       refine Ka T.nil ?_
       refine Qr rfl ?_
       refine Ka T.nil ?_
       refine Qr rfl ?_
       refine Qr rfl ?_
       refine Qr rfl ?_
       refine Qr rfl ?_
       refine (XL (hw7.Q4 Qgh)).mono ?_
       rintro _ AL ⟨rfl,K9⟩
       exact ⟨rfl,(BA.Q0 Qgh).Q0 K9⟩
     · rintro vs g AL ⟨rfl,he⟩
       exact ⟨rfl,he⟩
   · refine (Qr8 (n:=0) (mt:=some mb) Qn1 hpr hk7 (by omega) hm7 ho).mono ?_
     rintro _ w8 ⟨t1,n1,rfl,R1,le1⟩
     have KJ:=R1.ext
     have Si:=R1.cnt
     have E9:=Ext.mx' BA KJ Q9l
     have hw8:=hw7.mt hm7 KJ
     have Qbq:=Qn1.mt hm7 KJ
     have QmA:=Qur.mt KJ hm7
     have hc8:=hc7.ext KJ fun b hb h => by
      have e1 : mc = b:=hb
      have e2 : mb = b:=h
      omega
     refine (Qr4 (n:=0) (mt:=some mc) Qbq hpr (hk.Q4 E9) (by omega) hc8 ho).mono ?_
     rintro _ w9 ⟨t2,n2,rfl,R2,le2⟩
     have Ym:=R2.ext
     have hc9:=R2.cnt
     have OA:=Ext.mx' E9 Ym QmO
     have hw9:=hw8.mt hc8 Ym
     have Qjd:=Qbq.mt hc8 Ym
     have Qbg:=QmA.mt Ym hc8
     have hm9:=Si.ext Ym fun b hb h => by
      have e1 : mb = b:=hb
      have e2 : mc = b:=h
      omega
     have c1:=R1.ct.mt hc8 Ym
     refine (QvF Qjd hpr (hk.Q4 OA) (by omega) hw9.Ra ho).mono ?_
     rintro _ Dn ⟨t3,t4,rfl,c3,c4,J9⟩
     refine Vu (fun h => absurd (by omega) ho) fun _ => ?_
     have Dq:=OA.Q0 J9
     refine (QgA (Qbg.Q4 J9) (hk.Q4 Dq) (by omega) hpr.keys).mono ?_
     rintro _ AL ⟨v1,v2,rfl,hv1,hv2,K9⟩
     have Q0i:=J9.Q0 K9
     have Gf:=OA.Q0 Q0i
     have Q2s:=hw9.Q4 Q0i
     have pl : Pr (Yz false k m):=UH hpr
     have ph : Pr (Yz true k m):=UH hpr
     have i1 : Yz true k m = [] → Yz false k m = m:=fun h => Cc fun x hx => by
      have h2:=BF.1 h x hx
      rw [Xm] at h2
      rw [Vg]
      simpa using h2
     have i2 : Yz false k m = [] → Yz true k m = m:=fun h => Cc fun x hx => by
      have h2:=BF.1 h x hx
      rw [Vg] at h2
      rw [Xm,h2]; rfl
     have Q9m:=hm9.Q4 Q0i
     have Qqa:=hc9.Q4 Q0i
     have QBC:=Qjd.Q4 Q0i
     have QnA : ∀ {q : Kv},(q.length : Int) = 0 → q = []:=fun h => List.eq_nil_of_length_eq_zero (by omega)
     refine xj (fun vs w' => vs = [.bool false] ∧ w' = AL) ?_ ?_
     · have p2 : Zq v1 fun Y8 => YA Y8 (.int .i64 0) fun Y7 => Ql Y7 (Y1 P AL t2.v t.v fun Xg => Ql Xg ([Value.bool true] = [.bool false] ∧ AL = AL) (Q6 P Zj [mv (some mc)] AL fun UD Gt => Ad UD (.int .i64 0) fun Vk => [Vk] = [.bool false] ∧ Gt = AL)) ([Value.bool false] = [.bool false] ∧ AL = AL):=by
        refine hv1.len ?_
        refine Vu (fun h => ?_) fun h => ⟨rfl,rfl⟩
        obtain ⟨rfl,rfl⟩:=R2.idle (i2 (QnA h))
        refine Y4 _ ?_
        refine Qp rfl ?_
        refine (Dh Qqa).mono ?_
        rintro _ Rw ⟨rfl,rfl⟩
        exact ⟨rfl,rfl⟩
       refine hv2.len ?_
       refine Vu (fun h => ?_) fun h => p2
       obtain ⟨rfl,rfl⟩:=R1.idle (i1 (QnA h))
       refine Y4 _ ?_
       refine Qp rfl ?_
       refine (Dh Q9m).mono ?_
       rintro _ Rw ⟨rfl,rfl⟩
       refine Qp rfl ?_
       exact p2
     rintro vs g Rw ⟨rfl,rfl⟩
     refine Qp rfl ?_
     have hst:=E.Qlw t.er k
     have hsteq : t.steps k = t.er.steps k:=rfl
     refine (QqN Q2s.fl QBC.tree (hk.Q4 Gf) (by omega)).mono ?_
     rintro _ Rw ⟨rfl,JX⟩
     have QsJ:=K9.Q0 JX
     have c1':=c1.Q4 (Q0i.Q0 JX)
     have c2':=R2.ct.Q4 (Q0i.Q0 JX)
     have c3':=c3.Q4 QsJ
     have c4':=c4.Q4 QsJ
     have Dp:=Q2s.Q4 JX
     have QuH:=Q9m.Q4 JX
     have Qv2:=Qqa.Q4 JX
     have Sm:=Gf.Q0 JX
     refine xj (fun vs w' => vs = [.bool true] ∧ Ext No w w') ?_ ?_
     · refine Qr rfl ?_
       refine Qr rfl ?_
       refine Qr rfl ?_
       refine (Sy Dp c1' (hv1.Q4 JX) pl).mono ?_
       rintro _ w13 ⟨rfl,XK⟩
       refine Qr rfl ?_
       refine (Sy (Dp.Q4 XK) (c2'.Q4 XK) (hv2.Q4 (JX.Q0 XK)) ph).mono ?_
       rintro _ w14 ⟨rfl,UZ⟩
       refine Qr rfl ?_
       have h14:=XK.Q0 UZ
       refine (Sy (Dp.Q4 h14) (c3'.Q4 h14) (hv1.Q4 (JX.Q0 h14)) pl).mono ?_
       rintro _ w15 ⟨rfl,Db⟩
       refine Qr rfl ?_
       have h15:=h14.Q0 Db
       refine (Sy (Dp.Q4 h15) (c4'.Q4 h15) (hv2.Q4 (JX.Q0 h15)) ph).mono ?_
       rintro _ w16 ⟨rfl,Q1v⟩
       refine Qr rfl ?_
       have h16:=h15.Q0 Q1v
       refine (Dh (QuH.Q4 h16)).mono ?_
       rintro _ w17 ⟨rfl,rfl⟩
       refine xi (r:=((2 * t.steps k : Nat) : Int)) (by rw [QQ (by omega)]; omega) ?_
       refine Qr (decide_eq_true (by rw [QQ (by omega)]; omega)) ?_
       refine (Dh (Qv2.Q4 h16)).mono ?_
       rintro _ w18 ⟨rfl,rfl⟩
       refine xi (r:=((2 * t.steps k : Nat) : Int)) (by rw [QQ (by omega)]; omega) ?_
       refine Qr (decide_eq_true (by rw [QQ (by omega)]; omega)) ?_
       refine (Sy (Dp.Q4 h16) ((QBC.Q4 JX).Q4 h16) (Qbg.Q4 ((Q0i.Q0 JX).Q0 h16)) hpr).mono ?_
       rintro _ w19 ⟨rfl,Qga⟩
       refine Qr rfl ?_
       have h19:=h16.Q0 Qga
       refine (XL (Dp.Q4 h19)).mono ?_
       rintro _ w20 ⟨rfl,QmY⟩
       exact ⟨rfl,(Sm.Q0 h19).Q0 QmY⟩
     · rintro vs g w13 ⟨rfl,he⟩
       exact ⟨rfl,he⟩
theorem QfV (hw : Lw w) {o : Nat} (hl : Ps w va l) (hm : Ps w vb m) (h64 : o < 18446744073709551616) : Q6 P JK [va,vb,.int .u64 o] w fun r w' => r = .bool true ∧ Ext No w w':=by
 refine Q4q ?_
 refine xj (fun vs w' => ∃ b,vs = [.bool b] ∧ Ext No w w' ∧ (b = false → l.length ≤ 100 ∧ (∀ p ∈ l,p.1.length ≤ 300) ∧ m.length ≤ 100 ∧ ∀ p ∈ m,p.1.length ≤ 300)) ?_ ?_
 · refine (Q7W (m:=100) hl (by omega)).mono ?_
   rintro r w1 ⟨b,rfl,he1,hb⟩
   cases b with
   | true => exact Qr rfl ⟨true,rfl,he1,fun h => by cases h⟩
   | false =>
     refine Qp rfl ?_
     refine (Q7W (m:=100) (hm.Q4 he1) (by omega)).mono ?_
     rintro r w2 ⟨b,rfl,he2,hb2⟩
     exact ⟨b,rfl,he1.Q0 he2,fun h => ⟨(hb rfl).1,(hb rfl).2,(hb2 h).1,(hb2 h).2⟩⟩
 rintro vs g w1 ⟨b,rfl,he1,hb⟩
 cases b with
 | true =>
   refine Qr rfl ?_
   refine (XL (hw.Q4 he1)).mono ?_
   rintro r w3 ⟨rfl,QE⟩
   exact ⟨rfl,he1.Q0 QE⟩
 | false =>
   refine Qp rfl ?_
   obtain ⟨l1,l3,m1,m3⟩:=hb rfl
   have pa : Pr (Kj l):=Pr.sort (by omega) fun p h => by have:=l3 p h; omega
   have pb : Pr (Kj m):=Pr.sort (by omega) fun p h => by have:=m3 p h; omega
   have QAy : (Kj l).length ≤ 100:=Nat.le_trans (Yd l) l1
   have QAs : (Kj m).length ≤ 100:=Nat.le_trans (Yd m) m1
   refine (BB (hl.Q4 he1) (by omega) (fun p h => by have:=l3 p h; omega)).mono ?_
   rintro vl w2 ⟨hso,he2⟩
   have hps:=hso.ps he2 (.inr rfl)
   have hE2:=he1.Q0 he2
   refine (BB (hm.Q4 hE2) (by omega) (fun p h => by have:=m3 p h; omega)).mono ?_
   rintro vm w3 ⟨Q9k,QE⟩
   have Qus:=Q9k.ps QE (.inr rfl)
   have JD:=hE2.Q0 QE
   have Qj8:=hps.Q4 QE
   generalize Kj l = a at pa Qj8 QAy hps hso
   generalize Kj m = b at pb Qus QAs Q9k
   refine (Bc Qj8 pa (hw.Q4 JD) (ow:=1) (by omega)).mono ?_
   rintro r w4 ⟨ta,rfl,cta,-,-,-,Zl⟩
   have U9:=JD.Q0 Zl
   refine (Bc (Qus.Q4 Zl) pb (hw.Q4 U9) (ow:=1) (by omega)).mono ?_
   rintro r w5 ⟨tb,rfl,ctb,-,-,-,ZR⟩
   have WX:=U9.Q0 ZR
   have Pn:=hw.Q4 WX
   refine Qz fun mb w6 hmb Iu hz6 Ke => ?_
   have hm6 : Mt w6 (some mb) 0:=Pn.Q7a hmb Iu Ke
   have Q9l : w.heap.size ≤ mb:=by have:=WX.size; omega
   have MC:=WX.Q0 Ke
   have hw6:=Pn.Q4 Ke
   have QBB:=(cta.Q4 ZR).Q4 Ke
   have QBA:=ctb.Q4 Ke
   have hpa6:=Qj8.Q4 ((Zl.Q0 ZR).Q0 Ke)
   have hpb6:=Qus.Q4 ((Zl.Q0 ZR).Q0 Ke)
   by_cases ho : o = 0
   · subst ho
     refine Qr2.mono ?_
     rintro _ w8 ⟨rfl,KJ⟩
     refine Qr rfl ?_
     refine xj (fun vs w' => vs = [.bool true] ∧ Ext No w w') ?_ ?_
     · refine Ka T.nil ?_
       refine Qr rfl ?_
       refine Qr rfl ?_
       refine (XL (hw6.Q4 KJ)).mono ?_
       rintro _ AL ⟨rfl,K9⟩
       exact ⟨rfl,(MC.Q0 KJ).Q0 K9⟩
     · rintro vs g AL ⟨rfl,he⟩
       exact ⟨rfl,he⟩
   · refine (Qr3 (n:=0) (mt:=some mb) QBB pa QBA pb hm6 ho).mono ?_
     rintro _ w7 ⟨t,n1,rfl,J⟩
     have Yy:=J.ext
     have BA:=Ext.mx' MC Yy Q9l
     have hw7:=hw6.mt hm6 Yy
     have Qzp:=hpa6.mt Yy hm6
     have Qq0:=hpb6.mt Yy hm6
     have cta7:=QBB.mt hm6 Yy
     have ctb7:=QBA.mt hm6 Yy
     refine Vu (fun h => absurd (by omega) ho) fun _ => ?_
     refine (QjQ Qzp Qq0 (by omega) (by omega) pa.keys).mono ?_
     rintro _ w8 ⟨v1,rfl,hv1,KJ⟩
     have Si:=J.cnt.Q4 KJ
     have hw8:=hw7.Q4 KJ
     have E9:=BA.Q0 KJ
     refine xj (fun vs w' => vs = [.bool false] ∧ w' = w8) ?_ ?_
     · have p2 : Ad (.int .i64 (Yk a b : Nat)) (.int .i64 (Yk a b : Nat)) fun K3 => Ql K3 ([Value.bool true] = [.bool false] ∧ w8 = w8) (Ad (.int .i64 (Yk a b : Nat)) (.int .i64 0) fun Ex => Ql Ex (Y1 P w8 t.v (.pointer none) fun XD => [XD] = [.bool false] ∧ w8 = w8) ([Value.bool false] = [.bool false] ∧ w8 = w8)):=by
        refine Q5L (fun h => absurd rfl h) fun _ => ?_
        refine Q5L (fun h => ?_) fun _ => ⟨rfl,rfl⟩
        rw [J.bad (by omega)]
        exact Y4 (w:=w8) (K:=fun v => [v] = [.bool false] ∧ w8 = w8) T.nil ⟨rfl,rfl⟩
       refine (Qq0.Q4 KJ).len ?_
       refine Vu (fun h => ?_) fun h => p2
       have hbn : b = []:=List.eq_nil_of_length_eq_zero (by omega)
       obtain ⟨hi1,rfl⟩:=J.idle hbn
       rw [hi1] at p2 ⊢
       refine Y4 ta ?_
       refine Qp rfl ?_
       refine (Dh Si).mono ?_
       rintro _ Rw ⟨rfl,rfl⟩
       refine Qp rfl ?_
       exact p2
     rintro vs g w9 ⟨rfl,rfl⟩
     refine Qp rfl ?_
     refine xj (fun vs w' => vs = [.bool true] ∧ Ext No w w') ?_ ?_
     · have fin : ∀ {w' : World},Ext No w9 w' → Q6 P KF [ta.v,vl] w' fun YY AO => Ql YY (Q6 P KF [tb.v,vm] AO fun Y9 Xe => Ql Y9 (Q6 P Jy [] Xe fun Kt Uy => [Kt] = [.bool true] ∧ Ext No w Uy) ([Value.bool false] = [.bool true] ∧ Ext No w Xe)) ([Value.bool false] = [.bool true] ∧ Ext No w AO):=fun {w'} he => by
        refine (Sy (hw8.Q4 he) ((cta7.Q4 KJ).Q4 he) ((Qzp.Q4 KJ).Q4 he) pa).mono ?_
        rintro _ w13 ⟨rfl,XK⟩
        refine Qr rfl ?_
        have h13:=he.Q0 XK
        refine (Sy (hw8.Q4 h13) ((ctb7.Q4 KJ).Q4 h13) ((Qq0.Q4 KJ).Q4 h13) pb).mono ?_
        rintro _ w14 ⟨rfl,UZ⟩
        refine Qr rfl ?_
        have h14:=h13.Q0 UZ
        refine (XL (hw8.Q4 h14)).mono ?_
        rintro _ w15 ⟨rfl,Db⟩
        exact ⟨rfl,(E9.Q0 h14).Q0 Db⟩
       refine Q5L (fun h => fin (Ext.refl _ _)) fun h => ?_
       have e0 : Yk a b = 0:=by omega
       have hr:=Q55 pa.rises pb.rises e0
       have hpr : Pr (a ++ b):=⟨hr,fun x hx => by
        rcases List.mem_append.1 hx with hx | hx
        · exact pa.keys x hx
        · exact pb.keys x hx,by simp; omega⟩
       refine (Sy hw8 ((J.ct e0).Q4 KJ) (hv1 e0) hpr).mono ?_
       rintro _ w13 ⟨rfl,XK⟩
       refine Qr rfl ?_
       exact fin XK
     · rintro vs g w13 ⟨rfl,he⟩
       exact ⟨rfl,he⟩
end
end H7
end Go.Proofs.YtbnhggfiembejaaGreatDoor
end
