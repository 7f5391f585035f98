import Derived.Test.YtbnhggfiembejaaGreatDoorPs
import Derived.Test.YtbnhggfiembejaaGreatDoorMap
import Derived.Test.YtbnhggfiembejaaGreatDoorStr
section
namespace Go.Proofs.YtbnhggfiembejaaGreatDoor
open Go Go.RowKit X
set_option linter.unusedSimpArgs false
set_option linter.unusedVariables false
set_option linter.unusedSectionVars false
theorem Qdv : ∀ (a b : Key),Uv a b = if common a b = a.length then (if common a b = b.length then 0 else -1) else if common a b = b.length then 1 else if JE (common a b) a < JE (common a b) b then -1 else 1:=by
 intro a
 induction a with
 | nil => intro b; cases b with
   | nil => rfl
   | cons y s => rw [Q2p]; simp [common]
 | cons x r ih => intro b; cases b with
   | nil => rw [Gd]; simp [common]
   | cons y s =>
     rw [Wp]
     by_cases h : x = y
     · subst h
       rw [if_neg (UInt8.lt_irrefl x),if_neg (UInt8.lt_irrefl x),ih]
       have hc : common (x :: r) (x :: s) = common r s + 1:=by simp [common]
       rw [hc]
       simp only [List.length_cons,Nat.add_right_cancel_iff]
       rfl
     · have hc : common (x :: r) (y :: s) = 0:=by simp [common,h]
       have e1 : (if common (x :: r) (y :: s) = (x :: r).length then (if common (x :: r) (y :: s) = (y :: s).length then (0 : Int) else -1) else if common (x :: r) (y :: s) = (y :: s).length then 1 else if JE (common (x :: r) (y :: s)) (x :: r) < JE (common (x :: r) (y :: s)) (y :: s) then -1 else 1) = if x < y then -1 else 1:=by
        rw [hc,if_neg (by simp),if_neg (by simp)]
        rfl
       rw [e1]
       by_cases h1 : x < y
       · rw [if_pos h1,if_pos h1]
       · rw [if_neg h1,if_neg h1,if_pos (UInt8.lt_of_le_of_ne (UInt8.not_lt.1 h1) (Ne.symm h))]
variable [Floor]
section
variable {w : World} {va vb : Value} {a b : Key}
theorem Qax (ha : Bs w va a) (hb : Bs w vb b) (la : a.length ≤ 4611686018427387904) : Q6 P CQ [va,vb] w fun r w' => r = .int .i64 (common a b) ∧ Ext No w w':=by
 refine Q8s ?_
 refine JN (fun n vs w' => ∃ (i : Nat),vs = [.int .i64 i] ∧ i ≤ a.length ∧ i ≤ b.length ∧ n = a.length - i ∧ (∀ j,j < i → a[j]? = b[j]?) ∧ Ext No w w') a.length
  ⟨0,rfl,by omega,by omega,rfl,by omega,Ext.refl _ _⟩ ?_
 rintro n vs g w1 ⟨i,rfl,hia,hib,rfl,hij,he⟩
 have fin : ∀ w2,Ext No w w2 → (a[i]? ≠ b[i]? ∨ i = a.length ∨ i = b.length) → (Value.int .i64 i = Value.int .i64 (common a b) ∧ Ext No w w2):=fun w2 he hs => ⟨by rw [Su hij hia hib hs],he⟩
 refine xj (fun vs w' => ∃ t : Bool,vs = [.bool t] ∧ Ext No w w' ∧ (t = true → i < a.length ∧ i < b.length ∧ a[i]? = b[i]?) ∧ (t = false → a[i]? ≠ b[i]? ∨ i = a.length ∨ i = b.length)) ?_ ?_
 · refine ha.len ?_
   refine ZF (fun h1 => ?_) fun h1 => ⟨false,rfl,he.drew,fun h => (by cases h),fun _ => by omega⟩
   refine hb.len ?_
   refine ZF (fun h2 => ?_) fun h2 => ⟨false,rfl,he.drew,fun h => (by cases h),fun _ => by omega⟩
   have h1 : i < a.length:=by omega
   have h2 : i < b.length:=by omega
   refine (ha.Q4 he.drew).rd i h1 rfl ?_
   refine (hb.Q4 he.drew).rd i h2 rfl ?_
   refine ⟨_,rfl,he.drew,fun h => ⟨h1,h2,?_⟩,fun h => .inl ?_⟩
   · rw [List.getElem?_eq_getElem h1,List.getElem?_eq_getElem h2]
     congr 1
     exact UInt8.toNat_inj.1 (by exact_mod_cast (by simpa using h : (a[i].toNat : Int) = (b[i].toNat : Int)))
   · rw [List.getElem?_eq_getElem h1,List.getElem?_eq_getElem h2]
     intro e
     have e:=Option.some.inj e
     rw [e] at h
     simp at h
 · rintro vs g w2 ⟨t,rfl,he2,ht,hf⟩
   cases t with
   | true =>
     obtain ⟨h1,h2,h3⟩:=ht rfl
     refine Qr rfl ?_
     refine xi (r:=((i + 1 : Nat) : Int)) (by rw [QQ (by omega)]; omega) ?_
     refine JP (a.length - (i + 1)) (by omega) ⟨i + 1,rfl,by omega,by omega,rfl,fun j hj => ?_,he2⟩
     rcases Nat.lt_succ_iff_lt_or_eq.1 hj with e | e
     · exact hij j e
     · subst e; exact h3
   | false => exact Qp rfl (fin w2 he2 (hf rfl))
theorem Q49 (ha : Bs w va a) (hb : Bs w vb b) (la : a.length ≤ 4611686018427387904) : Q6 P WB [va,vb] w fun r w' => r = .int .i64 (Uv a b) ∧ Ext No w w':=by
 refine QeN ?_
 refine (Qax ha hb la).mono ?_
 rintro r w1 ⟨rfl,he⟩
 have hcl:=Ed a b
 rw [Qdv]
 refine xj (fun vs w' => w' = w1 ∧ vs = [.bool (decide (common a b = a.length ∧ common a b = b.length))]) ?_ ?_
 · refine ha.len ?_
   refine Vu (fun e => ?_) fun e => ⟨rfl,by rw [decide_eq_false (fun h => e (by rw [h.1]))]⟩
   refine hb.len ?_
   refine ⟨rfl,?_⟩
   have e1 : common a b = a.length:=by omega
   by_cases e2 : common a b = b.length
   · rw [decide_eq_true ⟨e1,e2⟩,e2]; simp
   · rw [decide_eq_false (fun h => e2 h.2)]
     congr 2
     simp; omega
 · rintro vs g w2 ⟨rfl,rfl⟩
   refine ZF (fun h => ?_) fun h => ?_
   · rw [if_pos h.1,if_pos h.2]; exact ⟨rfl,he⟩
   · refine ha.len ?_
     refine Vu (fun e => ?_) fun e => ?_
     · have e : common a b = a.length:=by omega
       rw [if_pos e,if_neg fun e2 => h ⟨e,e2⟩]; exact ⟨rfl,he⟩
     · have e : common a b ≠ a.length:=by omega
       rw [if_neg e]
       refine hb.len ?_
       refine Vu (fun e2 => ?_) fun e2 => ?_
       · have e2 : common a b = b.length:=by omega
         rw [if_pos e2]; exact ⟨rfl,he⟩
       · have e2 : common a b ≠ b.length:=by omega
         rw [if_neg e2]
         refine (ha.Q4 he.drew).rd (common a b) (by omega) rfl ?_
         refine (hb.Q4 he.drew).rd (common a b) (by omega) rfl ?_
         rw [BS,BS]
         refine ZF (fun hlt => ?_) fun hlt => ?_
         · rw [if_pos (UInt8.lt_iff_toNat_lt.2 (by omega))]; exact ⟨rfl,he.drew⟩
         · rw [if_neg (fun h' => hlt (by have:=UInt8.lt_iff_toNat_lt.1 h'; omega))]; exact ⟨rfl,he.drew⟩
theorem Q6D (ha : Bs w va a) (hb : Bs w vb b) (la : a.length ≤ 4611686018427387904) : Q6 P Ak [va,vb] w fun r w' => r = .bool (decide (a = b)) ∧ Ext No w w':=by
 refine Qcb ?_
 refine (Q49 ha hb la).mono ?_
 rintro r w1 ⟨rfl,he⟩
 refine ⟨?_,he⟩
 by_cases e : a = b
 · rw [QiZ.2 e,decide_eq_true e]; rfl
 · rw [decide_eq_false e]
   congr 1
   have : Uv a b ≠ 0:=fun h => e (Qbf h)
   simpa using this
end
end Go.Proofs.YtbnhggfiembejaaGreatDoor
end
section
namespace Go.Proofs.YtbnhggfiembejaaGreatDoor
open Go Go.RowKit X
set_option linter.unusedSimpArgs false
set_option linter.unusedVariables false
set_option linter.unusedSectionVars false
theorem Qml : ∀ {s : Kv} {j : Nat} {k : Key} {v : Nat},(∀ i (h : i < s.length),i < j → Xr s[i].1 k) → (hj : j < s.length) → s[j].1 = k → EB s k v = s.set j (k,v):=by
 intro s
 induction s with
 | nil => intro j k v _ hj; simp at hj
 | cons p r ih =>
   intro j k v hlt hj he
   cases j with
   | zero =>
     have he : p.1 = k:=he
     rw [EB,if_neg (by rw [he]; exact Ep),if_pos he]; rfl
   | succ j =>
     have h0 : Xr p.1 k:=hlt 0 (by simp) (by omega)
     rw [EB,if_pos h0,List.set_cons_succ,ih (fun i h hi => hlt (i + 1) (by simpa using h) (by omega)) (by simpa using hj) he]
theorem Qmm : ∀ {s : Kv} {j : Nat} {k : Key} {v : Nat},(∀ i (h : i < s.length),i < j → Xr s[i].1 k) → j ≤ s.length → (∀ h : j < s.length,¬ Xr s[j].1 k ∧ s[j].1 ≠ k) → EB s k v = s.take j ++ (k,v) :: s.drop j:=by
 intro s
 induction s with
 | nil => intro j k v _ hj _; simp at hj; subst hj; rfl
 | cons p r ih =>
   intro j k v hlt hj hn
   cases j with
   | zero =>
     have h1 : ¬ Xr p.1 k:=(hn (by simp)).1
     have h2 : p.1 ≠ k:=(hn (by simp)).2
     rw [EB,if_neg h1,if_neg h2]; rfl
   | succ j =>
     have h0 : Xr p.1 k:=hlt 0 (by simp) (by omega)
     rw [EB,if_pos h0,ih (fun i h hi => hlt (i + 1) (by simpa using h) (by omega)) (by simpa using hj) (fun h => hn (by simpa using h))]
     rfl
theorem Qfr {l : Kv} {i : Nat} (h : i < l.length) : Kj (l.take (i + 1)) = EB (Kj (l.take i)) l[i].1 l[i].2:=by
 rw [← List.take_append_getElem h,Q1n]
variable [Floor]
section
variable {w0 w : World} {T : TypeId} {v : Value} {l : Kv}
theorem SO.key {K : Value → Prop} {kd : IntKind} {i : Int} (h : SO w0 w T v l) (m : Nat) (hi : i = (m : Int)) (hm : m < l.length) (k : ∀ kv,Bs w0 kv l[m].1 → K kv) : Zb v (.int kd i) 2 fun u => X6 u 0 fun p => Z6 p fun a => QC w a K:=by
 obtain ⟨cells,h1,h2⟩:=h
 obtain ⟨kv,h3,h4,-⟩:=h2.at_ m l[m] (List.getElem?_eq_getElem hm)
 exact h1.sl.rdF m hi hm (by omega) h3 (k kv h4)
theorem SO.rd {K : Value → Prop} {kd : IntKind} {i : Int} (h : SO w0 w T v l) (m : Nat) (hi : i = (m : Int)) (hm : m < l.length) (k : ∀ kv,Bs w0 kv l[m].1 → l[m].2 < 18446744073709551616 → K (.agg #[kv,u64 l[m].2])) : Zb v (.int kd i) 2 fun u => Z6 u fun a => Qo w a 2 K:=by
 obtain ⟨cells,h1,h2⟩:=h
 obtain ⟨kv,h3,h4,h5,h6⟩:=h2.at_ m l[m] (List.getElem?_eq_getElem hm)
 refine h1.sl.rdN m hi hm ?_
 have hl:=h2.len
 have : (cells.drop (m * 2)).take 2 = [kv,u64 l[m].2]:=by
  apply List.ext_getElem?
  intro j
  rw [List.getElem?_take]
  match j with
  | 0 => rw [if_pos (by omega),List.getElem?_drop,Nat.add_zero,h3]; rfl
  | 1 => rw [if_pos (by omega),List.getElem?_drop,h5]; rfl
  | j + 2 => rw [if_neg (by omega)]; rfl
 rw [this]
 exact k kv h4 h6
theorem SO.len {K : Value → Prop} (h : SO w0 w T v l) (k : K (.int .i64 l.length)) : Zq v K:=let ⟨_,h1,_⟩:=h; KN h1.sl k
theorem Ps.rd0 {w : World} {K : Value → Prop} {kd : IntKind} {i : Int} (h : Ps w0 v l) (he : Ext No w0 w) (m : Nat) (hi : i = (m : Int)) (hm : m < l.length) (k : ∀ kv,Bs w0 kv l[m].1 → K (.agg #[kv,u64 l[m].2])) : Zb v (.int kd i) 2 fun u => Z6 u fun a => Qo w a 2 K:=by
 obtain ⟨T,cells,hT,h1,h2⟩:=h
 obtain ⟨kv,h3,h4,h5,h6⟩:=h2.at_ m l[m] (List.getElem?_eq_getElem hm)
 refine (h1.Q4 he).rdN m hi hm ?_
 have hl:=h2.len
 have : (cells.drop (m * 2)).take 2 = [kv,u64 l[m].2]:=by
  apply List.ext_getElem?
  intro j
  rw [List.getElem?_take]
  match j with
  | 0 => rw [if_pos (by omega),List.getElem?_drop,Nat.add_zero,h3]; rfl
  | 1 => rw [if_pos (by omega),List.getElem?_drop,h5]; rfl
  | j + 2 => rw [if_neg (by omega)]; rfl
 rw [this]
 exact k kv h4
theorem Ps.Qu9 {w : World} {K : Value → Prop} {kd : IntKind} {i : Int} (h : Ps w0 v l) (he : Ext No w0 w) (m : Nat) (hi : i = (m : Int)) (hm : m < l.length) (k : ∀ kv,Bs w0 kv l[m].1 → K kv) : Zb v (.int kd i) 2 fun u => X6 u 0 fun p => Z6 p fun a => QC w a K:=by
 obtain ⟨T,cells,hT,h1,h2⟩:=h
 obtain ⟨kv,h3,h4,-⟩:=h2.at_ m l[m] (List.getElem?_eq_getElem hm)
 exact (h1.Q4 he).rdF m hi hm (by omega) h3 (k kv h4)
theorem BB (h : Ps w0 v l) (hl : l.length ≤ 1099511627776) (hk : ∀ p ∈ l,p.1.length ≤ 4611686018427387904) : Q6 P Kk [v] w0 fun r w' => SO w0 w' Qx r (Kj l) ∧ Ext No w0 w':=by
 have hkd : ∀ i (h : i < l.length),l[i].1.length ≤ 4611686018427387904:=fun i h => hk _ (List.getElem_mem h)
 refine Qc9 ?_
 refine JN (fun n vs w' => ∃ (i : Nat) (x out y : Value),vs = [.int .i64 i,x,out,y] ∧ n = l.length - i ∧ i ≤ l.length ∧ SO w0 w' Qx out (Kj (l.take i)) ∧ Ext No w0 w') l.length
  ⟨0,_,_,_,rfl,rfl,by omega,SO.nil _ _ _,Ext.refl _ _⟩ ?_
 rintro n vs g w1 ⟨i,x,out,y,rfl,rfl,hi,hso,he⟩
 refine h.len ?_
 refine ZF (fun hlt => ?_) fun hge => ?_
 · have hil : i < l.length:=by omega
   generalize hss : Kj (l.take i) = s at hso
   have hsl : s.length ≤ i:=by
    have:=Yd (l.take i)
    rw [hss] at this
    simp at this; omega
   have hsk : ∀ j (h : j < s.length),s[j].1.length ≤ 4611686018427387904:=fun j h => by
    have : s[j] ∈ Kj (l.take i):=by rw [hss]; exact List.getElem_mem h
    exact hk _ (List.mem_of_mem_take (Qa4 this))
   have h64:=h.get hil
   refine xj (fun vs w' => ∃ x out' y,vs = [x,out',y] ∧ SO w0 w' Qx out' (Kj (l.take (i + 1))) ∧ Ext No w0 w') ?_ ?_
   · rw [Qfr hil,hss]
     refine JN (fun n vs w' => ∃ j : Nat,vs = [.int .i64 j] ∧ n = s.length - j ∧ j ≤ s.length ∧ (∀ i' (h : i' < s.length),i' < j → Xr s[i'].1 l[i].1) ∧ SO w0 w' Qx out s ∧ Ext No w0 w') s.length ⟨0,rfl,rfl,by omega,fun _ _ h => by omega,hso,he⟩ ?_
     rintro n vs g w2 ⟨j,rfl,rfl,hj,hjl,Q5S,he2⟩
     refine xj (fun vs w' => ∃ t : Bool,vs = [.bool t] ∧ (t = true → ∃ h : j < s.length,Xr s[j].1 l[i].1) ∧ (t = false → ∀ h : j < s.length,¬ Xr s[j].1 l[i].1) ∧ SO w0 w' Qx out s ∧ Ext No w0 w') ?_ ?_
     · refine Q5S.len ?_
       refine ZF (fun h1 => ?_) fun h1 => ⟨false,rfl,fun h => (by cases h),fun _ h => by omega,Q5S,he2.drew⟩
       have h1 : j < s.length:=by omega
       refine SO.key (w:=w2.drew) Q5S j rfl h1 fun ka hka => ?_
       refine (h.Q4 he2.drew).key i rfl hil fun kb hkb => ?_
       refine (Q49 (hka.Q4 he2.drew) hkb (hsk j h1)).mono ?_
       rintro r w3 ⟨rfl,QE⟩
       refine ⟨_,rfl,fun h => ⟨h1,(by simpa using h : Uv s[j].1 l[i].1 < 0)⟩,fun h _ => ?_,Q5S.Q4 QE.KP,he2.drew.Q0 QE⟩
       intro hk
       have hk : Uv s[j].1 l[i].1 < 0:=hk
       have h : decide (Uv s[j].1 l[i].1 < 0) = false:=h
       simp at h
       omega
     · rintro vs g w3 ⟨t,rfl,ht,hf,Q9k,QE⟩
       cases t with
       | true =>
         obtain ⟨h1,h2⟩:=ht rfl
         refine Qr rfl ?_
         refine xi (r:=((j + 1 : Nat) : Int)) (by rw [QQ (by omega)]; omega) ?_
         refine JP (s.length - (j + 1)) (by omega) ⟨j + 1,rfl,rfl,by omega,fun i' h hi' => ?_,Q9k,QE⟩
         rcases Nat.lt_succ_iff_lt_or_eq.1 hi' with e | e
         · exact hjl i' h e
         · subst e; exact h2
       | false =>
         have hnl:=hf rfl
         refine Qp rfl ?_
         refine xj (fun vs w' => ∃ t : Bool,vs = [.bool t] ∧ (t = true → ∃ h : j < s.length,s[j].1 = l[i].1) ∧ (t = false → ∀ h : j < s.length,s[j].1 ≠ l[i].1) ∧ SO w0 w' Qx out s ∧ Ext No w0 w') ?_ ?_
         · refine Q9k.len ?_
           refine ZF (fun h1 => ?_) fun h1 => ⟨false,rfl,fun h => (by cases h),fun _ h => by omega,Q9k,QE.drew⟩
           have h1 : j < s.length:=by omega
           refine SO.key (w:=w3.drew) Q9k j rfl h1 fun ka hka => ?_
           refine (h.Q4 QE.drew).key i rfl hil fun kb hkb => ?_
           refine (Q6D (hka.Q4 QE.drew) hkb (hsk j h1)).mono ?_
           rintro r w4 ⟨rfl,Zl⟩
           exact ⟨_,rfl,fun h => ⟨h1,of_decide_eq_true h⟩,fun h _ => of_decide_eq_false h,Q9k.Q4 Zl.KP,QE.drew.Q0 Zl⟩
         · rintro vs g w4 ⟨t,rfl,ht,hf2,Qg4,Zl⟩
           cases t with
           | true =>
             obtain ⟨h1,h2⟩:=ht rfl
             refine Qr rfl ?_
             refine (h.Q4 Zl).val i rfl hil ?_
             refine Qg4.stV j rfl h1 h64 fun w5 Q2t ZR => ?_
             refine ⟨_,_,_,rfl,?_,Qg4.own Zl ZR⟩
             rw [Qml hjl h1 h2]
             rw [h2] at Q2t
             exact Q2t
           | false =>
             have hne:=hf2 rfl
             refine Qp rfl ?_
             show Qs w4 [.slice none 0 0,u64 0] Qx _
             refine Qz fun a w5 ha hblk hz5 ZR => ?_
             have hsl1 : Sl w5 (tyQ Qx) (.slice (some ⟨a,0,none⟩) 1 1) 2 1 [.slice none 0 0,u64 0]:=hblk.sln rfl
             have Q2t:=Qg4.Q4 ZR
             refine SO.app (m:=[([],0)]) Mv Q2t (Zl.Q0 ZR) hsl1 (PC.Q24 (Bs.nil w0) (by omega)) (by simp; omega) fun out' w6 Qz7 Ke _ _ => ?_
             refine Qz7.len ?_
             refine xi (r:=(s.length : Int)) (by simp only [List.length_append,List.length_singleton]; rw [QQ (by omega)]; omega) ?_
             refine JN (fun n vs w' => ∃ (k : Nat) (q : Key × Nat),vs = [.int .i64 k] ∧ n = k ∧ j ≤ k ∧ k ≤ s.length ∧ SO w0 w' Qx out' (s.take k ++ q :: s.drop k) ∧ Ext No w0 w') s.length
              ⟨s.length,([],0),rfl,rfl,hj,Nat.le_refl _,by simpa using Qz7,Ke⟩ ?_
             rintro n vs g w7 ⟨k,q,rfl,hnk,hjk,hks,Qmx,Yy⟩
             have hlen7 : (s.take k ++ q :: s.drop k).length = s.length + 1:=by simp; omega
             refine ZF (fun hgt => ?_) fun hle => ?_
             · have hk1 : j < k:=by omega
               refine xi (r:=((k - 1 : Nat) : Int)) (by rw [QQ (by omega)]; omega) ?_
               refine Qmx.rd (k - 1) rfl (by omega) fun kv Wq hv64 => ?_
               have hget : (s.take k ++ q :: s.drop k)[k - 1] = s[k - 1]:=by
                rw [List.getElem_append_left (by simp; omega),List.getElem_take]
               rw [hget] at Wq hv64 ⊢
               refine Qmx.stP k rfl (by omega) Wq hv64 (by kernel_rfl) fun w8 Qmw KJ => ?_
               refine xi (r:=((k - 1 : Nat) : Int)) (by rw [QQ (by omega)]; omega) ?_
               refine JP (k - 1) (by omega) ⟨k - 1,s[k - 1],rfl,rfl,by omega,by omega,?_,Qmx.own Yy KJ⟩
               have e1 : (s.take k ++ q :: s.drop k).set k (s[k - 1].1,s[k - 1].2) = s.take (k - 1) ++ s[k - 1] :: s.drop (k - 1):=by
                rw [List.set_append_right _ _ (by simp; omega)]
                have : k - (s.take k).length = 0:=by simp; omega
                rw [this,List.set_cons_zero]
                have e2 : s.take k = s.take (k - 1) ++ [s[k - 1]]:=by
                 have:=List.take_append_getElem (l:=s) (i:=k - 1) (by omega)
                 rw [show k - 1 + 1 = k by omega] at this
                 exact this.symm
                have e3 : s.drop (k - 1) = s[k - 1] :: s.drop k:=by
                 have:=List.drop_eq_getElem_cons (l:=s) (i:=k - 1) (by omega)
                 rw [show k - 1 + 1 = k by omega] at this
                 exact this
                rw [e2,e3,List.append_assoc]
                rfl
               rw [e1] at Qmw
               exact Qmw
             · have hkj : k = j:=by omega
               subst hkj
               refine h.rd0 Yy i rfl hil fun kv Wq => ?_
               refine Qmx.stP k rfl (by omega) Wq h64 (by kernel_rfl) fun w8 Qmw KJ => ?_
               refine ⟨_,_,_,rfl,?_,Qmx.own Yy KJ⟩
               have e1 : (s.take k ++ q :: s.drop k).set k (l[i].1,l[i].2) = s.take k ++ (l[i].1,l[i].2) :: s.drop k:=by
                rw [List.set_append_right _ _ (by simp; omega)]
                have : k - (s.take k).length = 0:=by simp; omega
                rw [this,List.set_cons_zero]
               rw [e1] at Qmw
               rw [Qmm hjl hj fun h => ⟨hnl h,hne h⟩]
               exact Qmw
   · rintro vs g w2 ⟨x,out',y,rfl,Q5S,he2⟩
     refine xi (r:=((i + 1 : Nat) : Int)) (by rw [QQ (by omega)]; omega) ?_
     exact JP (l.length - (i + 1)) (by omega) ⟨i + 1,_,_,_,rfl,rfl,by omega,Q5S,he2⟩
 · have : i = l.length:=by omega
   subst this
   rw [List.take_length] at hso
   exact ⟨hso,he⟩
end
end Go.Proofs.YtbnhggfiembejaaGreatDoor
end
section
section
namespace Go.Proofs.YtbnhggfiembejaaGreatDoor
open Go Go.RowKit X
set_option linter.unusedSimpArgs false
set_option linter.unusedVariables false
set_option linter.unusedSectionVars false
abbrev Pe : List Value:=[.int .i64 0,.slice none 0 0,.bool false,.int .u64 0,.slice none 0 0,.slice none 0 0]
theorem QqA : EI P Q8E Zz 6 96 (.agg #[.int .i64 0,.slice none 0 0,.bool false,.int .u64 0,.slice none 0 0,.slice none 0 0]):=⟨by kernel_rfl,by kernel_rfl,by rfl,by omega⟩
theorem X.Sl.Qcv {w : World} {T T' : Nat → TypeId → Prop} {v : Value} {sz n : Nat} {cells : List Value} (h : Sl w T v sz n cells) (ht : ∀ b t,b < w.heap.size → T b t → T' b t) : Sl w T' v sz n cells:=by
 obtain ⟨a,cap,rfl,hl,hc,ha⟩:=h
 refine ⟨a,cap,rfl,hl,hc,?_⟩
 cases a with
 | none => exact ha
 | some ad =>
   rcases ha with h0 | ⟨b,o,cs,t,fz,h1,hT,h2,h3,h4⟩
   · exact .inl h0
   exact .inr ⟨b,o,cs,t,fz,h1,ht b t (U4 h2) hT,h2,h3,h4⟩
def Q7l (n : Nat) : Nat:=if n = 0 then 1 else Kl n
variable [Floor]
def QB (Q : Nat → Prop) : Nat → TypeId → Prop:=fun b t => QT Qm b t ∧ Q b
def RC (w : World) (Q : Nat → Prop) : E → List Value → Prop
 | .nil,cs => cs = Pe
 | .node part val kids,cs => ∃ vp vb vk cells,cs = [.int .i64 (Q7l (dom fun c => (kids c).opt).length),vp,.bool val.isSome,u64 (val.getD 0),vb,vk] ∧ Sl w (QB Q) vp 1 part.length (part.map bv) ∧
   Sl w (QB Q) vb 1 (dom fun c => (kids c).opt).length ((dom fun c => (kids c).opt).map bv) ∧ Sl w (fun b _ => Q b) vk 6 (dom fun c => (kids c).opt).length cells ∧
   (∀ i c,(dom fun c => (kids c).opt)[i]? = some c → RC w Q (kids c) ((cells.drop (i * 6)).take 6)) ∧ part.length ≤ 65535 ∧ ∀ v,val = some v → v < 18446744073709551616
theorem RC.ext {X : Nat → Prop} {w w' : World} {Q : Nat → Prop} (e : Ext X w w') (hx : ∀ b,X b → b < w.heap.size → ¬ Q b) : ∀ {t : E} {cs : List Value},RC w Q t cs → RC w' Q t cs:=by
 intro t
 induction t with
 | nil => intro cs h; exact h
 | node part val kids ih =>
   rintro cs ⟨vp,vb,vk,cells,h1,h2,h3,h4,h5,h6⟩
   exact ⟨vp,vb,vk,cells,h1,h2.ext e fun b cs t fz hT hb hX => hx b hX (U4 hb) hT.2,h3.ext e fun b cs t fz hT hb hX => hx b hX (U4 hb) hT.2,h4.ext e fun b cs t fz hT hb hX => hx b hX (U4 hb) hT,
    fun i c hc => ih c (h5 i c hc),h6⟩
theorem RC.Q4 {w w' : World} {Q : Nat → Prop} {t : E} {cs : List Value} (h : RC w Q t cs) (e : Ext No w w') : RC w' Q t cs:=h.ext e fun _ h => h.elim
theorem RC.weak {w : World} {Q Q' : Nat → Prop} (hq : ∀ b,b < w.heap.size → Q b → Q' b) : ∀ {t : E} {cs : List Value},RC w Q t cs → RC w Q' t cs:=by
 intro t
 induction t with
 | nil => intro cs h; exact h
 | node part val kids ih =>
   rintro cs ⟨vp,vb,vk,cells,h1,h2,h3,h4,h5,h6⟩
   exact ⟨vp,vb,vk,cells,h1,h2.Qcv fun b t hb h => ⟨h.1,hq b hb h.2⟩,h3.Qcv fun b t hb h => ⟨h.1,hq b hb h.2⟩,h4.Qcv fun b t hb h => hq b hb h,fun i c hc => ih c (h5 i c hc),h6⟩
theorem RC.len {w : World} {Q : Nat → Prop} {t : E} {cs : List Value} (h : RC w Q t cs) : cs.length = 6 ∧ ∀ u ∈ cs,u.oneCell' = true:=by
 cases t with
 | nil => rw [show cs = Pe from h]; exact ⟨rfl,fun u hu => by simp only [List.mem_cons,List.mem_nil_iff,or_false] at hu; rcases hu with rfl | rfl | rfl | rfl | rfl | rfl <;> rfl⟩
 | node part val kids =>
   obtain ⟨vp,vb,vk,cells,rfl,⟨a1,c1,rfl,-⟩,⟨a2,c2,rfl,-⟩,⟨a3,c3,rfl,-⟩,-⟩:=h
   exact ⟨rfl,fun u hu => by simp only [List.mem_cons,List.mem_nil_iff,or_false] at hu; rcases hu with rfl | rfl | rfl | rfl | rfl | rfl <;> rfl⟩
section
variable {w : World} {v : Value} {l : Kv}
theorem QjO {n : Nat} (h : n ≤ 256) : Q6 P GQ [.int .i64 n] w fun r w' => r = .int .i64 (Kl n) ∧ w' = w:=by
 refine Q8q ?_
 refine xj (fun vs w' => vs = [.bool false] ∧ w' = w) ?_ ?_
 · refine Qp (decide_eq_false (by omega)) ?_
   exact ⟨by rw [decide_eq_false (by omega)],rfl⟩
 · rintro vs g w1 ⟨rfl,rfl⟩
   refine Qp rfl ?_
   unfold Kl
   refine ZF (fun h => by rw [if_pos (by omega)]; exact ⟨rfl,rfl⟩) fun h1 => ?_
   rw [if_neg (by omega)]
   refine ZF (fun h => by rw [if_pos (by omega)]; exact ⟨rfl,rfl⟩) fun h2 => ?_
   rw [if_neg (by omega)]
   refine ZF (fun h => by rw [if_pos (by omega)]; exact ⟨rfl,rfl⟩) fun h3 => ?_
   rw [if_neg (by omega),if_pos (by omega)]
   exact ⟨rfl,rfl⟩
theorem QnR {x : Key × Nat} (h : Ps w v (x :: l)) (hl : l.length ≤ 1099511627776) (hk : x.1.length ≤ 4611686018427387904) : Q6 P GN [v] w fun r w' => ∃ n : Nat,r = .int .i64 n ∧ Ext No w w' ∧ n ≤ x.1.length ∧ (∀ u ∈ x :: l,n ≤ common x.1 u.1) ∧ (n = x.1.length ∨ ∃ u ∈ x :: l,common x.1 u.1 = n):=by
 refine Q8o ?_
 refine h.key 0 rfl (by simp) fun k0 hk0 => ?_
 have hk0 : Bs w k0 x.1:=hk0
 refine hk0.len ?_
 refine JN (fun nn vs w' => ∃ (i n : Nat),vs = [.int .i64 (i + 1 : Nat),.int .i64 n] ∧ nn = l.length - i ∧ i ≤ l.length ∧ n ≤ x.1.length ∧ (∀ u ∈ (x :: l).take (i + 1),n ≤ common x.1 u.1) ∧ (n = x.1.length ∨ ∃ u ∈ x :: l,common x.1 u.1 = n) ∧ Ext No w w') l.length
  ⟨0,x.1.length,rfl,rfl,by omega,Nat.le_refl _,fun u hu => ?_,.inl rfl,Ext.refl _ _⟩ ?_
 · simp at hu; subst hu
   exact Q47 (List.prefix_refl _) (List.prefix_refl _)
 rintro nn vs g w1 ⟨i,n,rfl,rfl,hi,hn,hall,hex,he⟩
 refine h.len ?_
 refine ZF (fun hlt => ?_) fun hge => ?_
 · have hil : i + 1 < (x :: l).length:=by omega
   refine (h.Q4 he.drew).key 0 rfl (by simp) fun ka hka => ?_
   have hka : Bs w1.drew ka x.1:=hka
   refine (h.Q4 he.drew).key (i + 1) rfl hil fun kb hkb => ?_
   refine (Qax hka hkb hk).mono ?_
   rintro r w2 ⟨rfl,he2⟩
   refine xi (r:=((i + 1 + 1 : Nat) : Int)) (by simp at hil; rw [QQ (by omega)]; omega) ?_
   have hmin : ((if (common x.1 (x :: l)[i + 1].1 : Int) < (n : Int) then (common x.1 (x :: l)[i + 1].1 : Int) else (n : Int))) = ((min n (common x.1 (x :: l)[i + 1].1) : Nat) : Int):=by split <;> omega
   have hm1 : (x :: l)[i + 1] ∈ x :: l:=List.getElem_mem hil
   refine JP (l.length - (i + 1)) (by simp at hil; omega) ⟨i + 1,min n (common x.1 (x :: l)[i + 1].1),?_,rfl,by simp at hil; omega,by omega,fun u hu => ?_,?_,he.drew.Q0 he2⟩
   · rw [hmin]
   · rw [← List.take_append_getElem hil] at hu
     rcases List.mem_append.1 hu with e | e
     · have:=hall u e; omega
     · rw [List.mem_singleton.1 e]; omega
   · rcases Nat.lt_or_ge (common x.1 (x :: l)[i + 1].1) n with c | c
     · exact .inr ⟨_,hm1,by omega⟩
     · rw [Nat.min_eq_left c]; exact hex
 · have : i = l.length:=by simp at hge; omega
   subst this
   rw [List.take_of_length_le (by simp)] at hall
   exact ⟨n,rfl,he,hn,hall,hex⟩
theorem Ps.valK {K : Value → Value → Prop} {kd : IntKind} {i : Int} (h : Ps w v l) (m : Nat) (hi : i = (m : Int)) (hm : m < l.length) (k : ∀ p,(∀ w',Ps w' v l → Zg w' p (u64 l[m].2)) → K p (u64 l[m].2)) :
  Zb v (.int kd i) 2 fun u => X6 u 1 fun p => Z6 p fun a => QC w a fun x => K p x:=by
 have key : ∀ w',Ps w' v l → ∃ a cap,v = .slice (some a) l.length cap ∧ w'.cell? ((a.add (m * 2)).add 1) = some (u64 l[m].2):=by
  rintro w' ⟨T,cells,hT,h1,h2⟩
  obtain ⟨kv,-,-,h3,-⟩:=h2.at_ m l[m] (List.getElem?_eq_getElem hm)
  obtain ⟨a,cap,rfl,hc⟩:=h1.cell hm (show 1 < 2 by omega)
  exact ⟨a,cap,rfl,by rw [hc,h3]⟩
 obtain ⟨a,cap,rfl,hc⟩:=key w h
 refine ⟨m,hi,hm,⟨_,hc,k _ fun w' h' => ?_⟩⟩
 obtain ⟨a',cap',e,hc'⟩:=key w' h'
 simp only [Value.slice.injEq,Option.some.injEq] at e
 obtain ⟨rfl,-,rfl⟩:=e
 exact hc'
end
end Go.Proofs.YtbnhggfiembejaaGreatDoor
end
section
namespace Go.Proofs.YtbnhggfiembejaaGreatDoor
open Go Go.RowKit X
set_option linter.unusedSimpArgs false
set_option linter.unusedVariables false
set_option linter.unusedSectionVars false
theorem P5 : (dom fun c => (Du c).opt) = []:=VG
theorem QqB {kids : UInt8 → E} {b : UInt8} {e : E} (he : e.opt.isSome) (hlt : ∀ c ∈ dom (fun c => (kids c).opt),c.toNat < b.toNat) : (dom fun c => (JU kids b e c).opt) = (dom fun c => (kids c).opt) ++ [b]:=by
 refine QbD ?_ fun c => ?_
 · refine List.pairwise_append.2 ⟨Xl _,List.pairwise_singleton _ _,fun c hc d hd => ?_⟩
   rw [List.mem_singleton.1 hd]
   exact hlt c hc
 · rw [List.mem_append,Zd,List.mem_singleton]
   by_cases h : c = b
   · subst h; rw [JI]; simp [he]
   · rw [ZN _ _ h]; simp [h]
variable [Floor]
section
theorem RC.fresh {w w' : World} {Q : Nat → Prop} {e : E} {cs : List Value} (h : RC w Q e cs) (he : Ext No w w') : RC w' (fun b => Q b ∧ b < w.heap.size) e cs:=(h.weak fun b hb hq => ⟨hq,hb⟩).Q4 he
theorem Qft {x : Key × Nat} {l : Kv} {n : Nat} (hr : Zp (x :: l)) (hn : n ≤ x.1.length) (hall : ∀ u ∈ x :: l,n ≤ common x.1 u.1) (hex : n = x.1.length ∨ ∃ u ∈ x :: l,common x.1 u.1 = n) :
  (∀ u ∈ x :: l,x.1.take n <+: u.1) ∧ ((x.1.take n).length = x.1.length ∨ ∃ u ∈ x :: l,(x.1.take n).length < u.1.length ∧ JE (x.1.take n).length u.1 ≠ JE (x.1.take n).length x.1):=by
 have hql : (x.1.take n).length = n:=by rw [List.length_take]; omega
 refine ⟨fun u hu => ?_,?_⟩
 · have h1:=Iw x.1 u.1
   have h2:=hall u hu
   have : x.1.take n = (x.1.take (common x.1 u.1)).take n:=by rw [List.take_take,Nat.min_eq_left h2]
   rw [this]
   exact (List.take_prefix _ _).trans h1
 · rw [hql]
   rcases hex with h | ⟨u,hu,h⟩
   · exact .inl h
   · by_cases e : n = x.1.length
     · exact .inl e
     · right
       have hcl:=Ed x.1 u.1
       have hul : n < u.1.length:=by
        refine Classical.byContradiction fun hh => ?_
        have hlen : u.1.length = n:=by omega
        have hp : u.1 <+: x.1:=by
         have:=Iw u.1 x.1
         rw [Q5h,h,← hlen,List.take_length] at this
         exact this
        obtain ⟨s,hs⟩:=hp
        rcases hr.first hu with h' | h'
        · rw [← hs] at h'
          have : Uv (u.1 ++ s) (u.1 ++ []) < 0:=by rw [List.append_nil]; exact h'
          rw [Sd] at this
          cases s with
          | nil => exact absurd this (by decide)
          | cons c s => rw [Gd] at this; exact absurd this (by decide)
        · rw [h'] at e; exact e hlen.symm
       refine ⟨u,hu,hul,?_⟩
       have:=Qat (a:=x.1) (b:=u.1) (by omega) (by omega)
       rw [h] at this
       exact this.symm
theorem Own.ne {w : World} {B B' : Nat} {e e' : TypeId} {sz sz' n n' : Nat} {v v' : Value} {xs xs' : List Value} (h : Own w B e sz v n xs) (h' : Own w B' e' sz' v' n' xs') (he : e ≠ e') {b : Nat} (hb : v.ownBlock = some b) : v'.ownBlock ≠ some b:=fun hb' => by
 rcases h.2 with ⟨rfl,-⟩ | ⟨g,cap,cur,rfl,-,hg,-⟩
 · cases hb
 · rcases h'.2 with ⟨rfl,-⟩ | ⟨g',cap',cur',rfl,-,hg',-⟩
   · cases hb'
   · simp only [Value.ownBlock,Option.some.injEq] at hb hb'
     subst hb; subst hb'
     have:=hg.symm.trans hg'
     simp at this
     exact he this.2
theorem Own.neB {w : World} {B b : Nat} {e T : TypeId} {sz n : Nat} {v : Value} {xs cs : List Value} (h : Own w B e sz v n xs) (hb : QZ w b cs T) (he : e ≠ T) : v.ownBlock ≠ some b:=fun hb' => by
 rcases h.2 with ⟨rfl,-⟩ | ⟨g,cap,cur,rfl,-,hg,-⟩
 · cases hb'
 · simp only [Value.ownBlock,Option.some.injEq] at hb'
   subst hb'
   have:=hg.symm.trans hb.h
   simp at this
   exact he this.2
theorem six {cs : List Value} (h : cs.length = 6) : ∃ a b c d e f,cs = [a,b,c,d,e,f]:=by
 match cs,h with
 | [a,b,c,d,e,f],_ => exact ⟨a,b,c,d,e,f,rfl⟩
set_option maxHeartbeats 4000000 in
theorem QnT : ∀ (k : Nat) {wB w : World} {v : Value} {l : Kv} {p : Key},l.length ≤ k → l.length ≤ 1099511627776 → Ps wB v l → Ext No wB w → Zp l → (∀ x ∈ l,x.1.length ≤ 65535) → (∀ x ∈ l,p <+: x.1) → p.length ≤ 65536 →
  Q6 P El [v,.int .i64 p.length] w fun r w' => ∃ e cs,r = .agg cs.toArray ∧ RC w' (fun b => b < wB.heap.size ∨ w.heap.size ≤ b) e cs ∧ Can e (fun r => look l (p ++ r)) ∧ Ext No w w':=by
 intro k
 induction k with
 | zero =>
   intro wB w v l p hk hll hv heB hr hs hb hpl
   have : l = []:=List.eq_nil_of_length_eq_zero (by omega)
   subst this
   refine Q0N ?_
   refine Qz fun rb w1 hrb QdA hrz he1 => ?_
   refine hv.len ?_
   refine Qr rfl ?_
   show Yn P (storeVar Zz ⟨rb,0,none⟩ (.agg Pe.toArray)) w1 _
   refine JW QdA (by kernel_rfl) (by simp) (RC.len (w:=w) (Q:=fun _ => True) (t:=.nil) rfl).2 fun w2 hb2 hz2 he2 => ?_
   refine hb2.JH (by simp) ?_
   exact ⟨.nil,_,rfl,by simp [RC],⟨trivial,fun _ => rfl⟩,he1.Z0 he2 (by omega)⟩
 | succ k ih =>
   intro wB w v l p hk hll hv heB hr hs hb hpl
   refine Q0N ?_
   refine Qz fun rb w1 hrb QdA hrz he1 => ?_
   have hE1 : Ext No wB w1:=heB.Q0 he1
   refine hv.len ?_
   match l,hk,hll,hv,hr,hs,hb with
   | [],_,_,_,_,_,_ =>
     refine Qr rfl ?_
     show Yn P (storeVar Zz ⟨rb,0,none⟩ (.agg Pe.toArray)) w1 _
     refine JW QdA (by kernel_rfl) (by simp) (RC.len (w:=w) (Q:=fun _ => True) (t:=.nil) rfl).2 fun w2 hb2 hz2 he2 => ?_
     refine hb2.JH (by simp) ?_
     exact ⟨.nil,_,rfl,by simp [RC],⟨trivial,fun _ => rfl⟩,he1.Z0 he2 (by omega)⟩
   | [x],_,_,hv,hr,hs,hb =>
     refine Qp rfl ?_
     refine hv.len ?_
     refine Qr rfl ?_
     obtain ⟨s,hxs⟩:=hb x (by simp)
     have hle:=hs x (by simp)
     have hsl : s.length ≤ 65535:=by rw [← hxs] at hle; simp at hle; omega
     refine hv.Qu9 hE1.drew 0 rfl (by simp) fun kv Wq => ?_
     refine Wq.drop p.length rfl (by show p.length ≤ x.1.length; rw [← hxs]; simp) fun kv' Q0g => ?_
     have he : x.1.drop p.length = s:=by rw [← hxs,List.drop_left]
     have Q0g : Bs wB kv' s:=by rw [← he]; exact Q0g
     refine (hv.Q4 hE1.drew).val 0 rfl (by simp) ?_
     have Q0f:=hv.v64 x (by simp)
     obtain ⟨sa,sc,rfl⟩:=Q0g.slice
     show Yn P (storeVar Zz ⟨rb,0,none⟩ (.agg (List.toArray [.int .i64 1,.slice sa s.length sc,.bool true,u64 x.2,.slice none 0 0,.slice none 0 0]))) w1.drew _
     refine JW QdA.drew (by kernel_rfl) (by simp) (fun u hu => by
      simp only [List.mem_cons,List.mem_nil_iff,or_false] at hu
      rcases hu with rfl | rfl | rfl | rfl | rfl | rfl
      · rfl
      · exact Q0g.R9
      · rfl
      · rfl
      · rfl
      · rfl) fun w2 hb2 hz2 he2 => ?_
     refine hb2.JH (by simp) ?_
     have hz1:=he1.size
     have hE2 : Ext No w w2:=he1.drew.Z0 he2 (by omega)
     refine ⟨.node s (some x.2) Du,[.int .i64 1,.slice sa s.length sc,.bool true,u64 x.2,.slice none 0 0,.slice none 0 0],by simp,?_,?_,hE2⟩
     · refine ⟨.slice sa s.length sc,.slice none 0 0,.slice none 0 0,[],by rw [P5]; rfl,?_,by rw [P5]; exact Sl.nil,by rw [P5]; exact Sl.nil,fun i c hc => (by rw [P5] at hc; cases hc),hsl,fun v hv => by cases hv; exact Q0f⟩
       exact (Sl.Qcv Q0g fun b t hb h => ⟨h,.inl hb⟩).Q4 (heB.Q0 hE2)
     · refine Can.leaf fun r => ?_
       show (if x.1 = p ++ r then some x.2 else none) = _
       rw [← hxs]
       by_cases e : r = s
       · subst e; rw [if_pos rfl,if_pos rfl]
       · rw [if_neg e,if_neg fun h => e (List.append_cancel_left h).symm]
   | x :: y :: l,hk,hll,hv,hr,hs,hb =>
     refine Qp (by simp; omega) ?_
     refine hv.len ?_
     refine Qp (by simp; omega) ?_
     have QJm : l.length + 2 ≤ 1099511627776:=by simpa using hll
     have hx:=hs x (by simp)
     refine (QnR (hv.Q4 hE1) (by simp; omega) (by omega)).mono ?_
     rintro r w2 ⟨n,rfl,he2,hn,hall,hex⟩
     obtain ⟨hpre,hmax⟩:=Qft hr hn hall hex
     have hpt:=Parts.of hr (by simp) hpre hmax
     generalize hqq : x.1.take n = q at hpt hpre hmax
     have hql : q.length = n:=by rw [← hqq,List.length_take]; omega
     have hE2:=hE1.Q0 he2
     have hpq : p.length ≤ q.length:=by
      rw [hql]
      rcases hex with h | ⟨u,hu,h⟩
      · rw [h]; exact (hb x (by simp)).length_le
      · rw [← h]; exact Q47 (hb x (by simp)) (hb u hu)
     have hpp : ∃ part,q = p ++ part:=by
      obtain ⟨s,hs'⟩ : p <+: q:=List.prefix_of_prefix_length_le (hb x (by simp)) (hpre x (by simp)) hpq
      exact ⟨s,hs'.symm⟩
     obtain ⟨part,Ng⟩:=hpp
     have Qut : part.length ≤ 65535:=by
      have:=congrArg List.length Ng
      simp at this
      omega
     refine hv.Qu9 hE2 0 rfl (by simp) fun kx hkx => ?_
     have hkx : Bs wB kx x.1:=hkx
     refine hkx.part p.length n rfl rfl (by omega) hn fun vp hvp => ?_
     have hvp : Bs wB vp part:=by
      have e : (x.1.drop p.length).take (n - p.length) = part:=by
       obtain ⟨s,hs'⟩:=hpre x (by simp)
       rw [← hs',Ng]
       have : n = p.length + part.length:=by rw [← hql,Ng]; simp
       rw [this]
       simp [List.append_assoc]
      rwa [e] at hvp
     obtain ⟨pa,pc,hpv⟩:=hvp.slice
     subst hpv
     have Qq2 : ∀ K : List Value → Prop,K [.int .i64 0,.slice pa part.length pc,.bool false,.int .u64 0,.slice none 0 0,.slice none 0 0] → QN Pe [(1,1,.slice pa part.length pc)] K:=fun K k => k
     refine Qq2 _ ?_
     refine Qz fun nb w3 hnb Q2u hnz QE => ?_
     refine JW Q2u (by kernel_rfl) (by simp) (fun u hu => by
      simp only [List.mem_cons,List.mem_nil_iff,or_false] at hu
      rcases hu with rfl | rfl | rfl | rfl | rfl | rfl <;> rfl) fun w4 hb4 Ro Zl => ?_
     have hb4 : QZ w4 nb [.int .i64 0,.slice pa part.length pc,.bool false,.int .u64 0,.slice none 0 0,.slice none 0 0] Zz:=by simpa using hb4
     have z1:=he1.size
     have z2:=he2.size
     have U9 : Ext No w w4:=((he1.Q0 he2).Q0 QE).Z0 Zl (by omega)
     have QAY : Ext No wB w4:=heB.Q0 U9
     have hzB:=heB.size
     have Qzf : QZ w4 rb Pe Zz:=(((QdA.ext he2 fun h => h).ext QE fun h => h).ext Zl fun e => by have : rb = nb:=e; omega)
     generalize hL' : (if x.1.length = q.length then y :: l else x :: y :: l) = L' at hpt
     generalize hval : (if x.1.length = q.length then some x.2 else none) = val at hpt
     have Q0f:=hv.v64 x (by simp)
     have Qui : ∀ v,val = some v → v < 18446744073709551616:=by
      intro v hv'; rw [← hval] at hv'; split at hv'
      · cases hv'; exact Q0f
      · cases hv'
     refine xj (fun vs w' => ∃ i,vs = [.int .i64 (i : Nat)] ∧ (x :: y :: l).drop i = L' ∧ i ≤ 1 ∧ QZ w' nb [.int .i64 0,.slice pa part.length pc,.bool val.isSome,u64 (val.getD 0),.slice none 0 0,.slice none 0 0] Zz ∧ QZ w' rb Pe Zz ∧ Ext No w w') ?_ ?_
     · refine hv.Qu9 QAY 0 rfl (by simp) fun ky hky => ?_
       have hky : Bs wB ky x.1:=hky
       refine hky.len ?_
       refine Vu (fun e => ?_) fun e => ?_
       · have e : x.1.length = q.length:=by omega
         rw [if_pos e] at hL' hval
         subst hL'; subst hval
         have hvd:=hv.Q4 QAY.drew
         refine hvd.valK 0 rfl (by simp) fun pp hpp => ?_
         refine hb4.drew.st1 (o:=2) (by simp) rfl rfl fun w5 hb5 hz5 ZR => ?_
         have WX : Ext No w w5:=U9.drew.Z0 ZR (by omega)
         refine ⟨hpp _ (hv.Q4 (heB.Q0 WX)),?_⟩
         refine hb5.st1 (o:=3) (by simp) rfl rfl fun w6 hb6 hz6 Ke => ?_
         exact ⟨1,rfl,rfl,Nat.le_refl _,hb6,(Qzf.drew.ext ZR fun e => by have : rb = nb:=e; omega).ext Ke fun e => by have : rb = nb:=e; omega,WX.Z0 Ke (by omega)⟩
       · have e : x.1.length ≠ q.length:=by omega
         rw [if_neg e] at hL' hval
         subst hL'; subst hval
         exact ⟨0,rfl,rfl,by omega,hb4,Qzf,U9⟩
     · rintro vs g w5 ⟨i0,rfl,hi0,hi01,hb5,hrb5,WX⟩
       have hLr : Zp L':=by rw [← hi0]; exact List.Pairwise.drop hr
       have hLs : ∀ u ∈ L',u ∈ x :: y :: l:=by rw [← hi0]; exact fun u hu => List.mem_of_mem_drop hu
       have QuC : w.heap.size ≤ nb:=by omega
       refine JN (fun nn vs w' => ∃ (i : Nat) (xj vb vk : Value) (done : Kv) (kids : UInt8 → E) (cells : List Value),vs = [.int .i64 i,xj] ∧ nn = (x :: y :: l).length - i ∧ i ≤ (x :: y :: l).length ∧ done ++ (x :: y :: l).drop i = L' ∧
        QZ w' nb [.int .i64 0,.slice pa part.length pc,.bool val.isSome,u64 (val.getD 0),vb,vk] Zz ∧ QZ w' rb Pe Zz ∧ Ext No w w' ∧
        Own w' w.heap.size Qm 1 vb (dom fun c => (kids c).opt).length ((dom fun c => (kids c).opt).map bv) ∧ Own w' w.heap.size Zz 6 vk (dom fun c => (kids c).opt).length cells ∧ vk.ownBlock ≠ some nb ∧ vk.ownBlock ≠ some rb ∧
        (∀ j c,(dom fun c => (kids c).opt)[j]? = some c → RC w' (fun b => b < wB.heap.size ∨ (w.heap.size ≤ b ∧ b ≠ nb ∧ b ≠ rb ∧ vb.ownBlock ≠ some b ∧ vk.ownBlock ≠ some b)) (kids c) ((cells.drop (j * 6)).take 6)) ∧
        (∀ c,Can (kids c) fun r => look done (q ++ c :: r)) ∧ (∀ u ∈ done,∀ y' ∈ (x :: y :: l).drop i,(JE q.length u.1).toNat < (JE q.length y'.1).toNat)) ((x :: y :: l).length - i0)
        ⟨i0,_,.slice none 0 0,.slice none 0 0,[],Du,[],rfl,rfl,by simp; omega,by rw [List.nil_append,hi0],hb5,hrb5,WX,by rw [P5]; exact Own.nil _ _ _ _,by rw [P5]; exact Own.nil _ _ _ _,(fun h => by cases h),(fun h => by cases h),(fun j c hc => by rw [P5] at hc; cases hc),fun c => ⟨trivial,fun _ => rfl⟩,fun u hu => by cases hu⟩ ?_
       rintro nn vs g w6 ⟨i,xj0,vb,vk,done,kids,cells,rfl,rfl,hi,hdr,hb6,Qup,MC,Qq1,QmI,QhG,Qmr,hrc,XE,hsep⟩
       have QAX:=heB.Q0 MC
       refine hv.len ?_
       have hrest : ∀ u ∈ (x :: y :: l).drop i,u ∈ L':=fun u hu => by rw [← hdr]; exact List.mem_append_right _ hu
       have hdone : ∀ u ∈ done,u ∈ L':=fun u hu => by rw [← hdr]; exact List.mem_append_left _ hu
       refine ZF (fun hlt => ?_) fun hge => ?_
       · have hil : i < (x :: y :: l).length:=by omega
         have hlong : Eh q ((x :: y :: l).drop i):=fun u hu => hpt.long u (hrest u hu)
         have hrr : Zp ((x :: y :: l).drop i):=List.Pairwise.drop hr
         have hmem : ∀ j (h : j < (x :: y :: l).length),i ≤ j → (x :: y :: l)[j] ∈ (x :: y :: l).drop i:=fun j h hij => by
          rw [List.mem_drop_iff_getElem]
          exact ⟨j - i,by omega,by simp [show i + (j - i) = j by omega]⟩
         have hlm : ∀ j (h : j < (x :: y :: l).length),i ≤ j → n < ((x :: y :: l)[j]).1.length:=fun j h hij => by rw [← hql]; exact hlong.lt (hmem j h hij)
         generalize hbb : JE q.length ((x :: y :: l)[i]).1 = bb
         refine JN (fun nn vs w' => ∃ j : Nat,vs = [.int .i64 j] ∧ nn = (x :: y :: l).length - j ∧ i ≤ j ∧ j ≤ (x :: y :: l).length ∧ (∀ u ∈ ((x :: y :: l).drop i).take (j - i),JE q.length u.1 = bb) ∧ Ext No w6 w') ((x :: y :: l).length - i)
          ⟨i,rfl,rfl,Nat.le_refl _,hi,by simp,Ext.refl _ _⟩ ?_
         rintro nn vs g w7 ⟨j,rfl,rfl,hij,hjl,EC,BA⟩
         have QAW:=QAX.Q0 BA
         refine xj (fun vs w' => ∃ t : Bool,vs = [.bool t] ∧ Ext No w6 w' ∧ (t = true → ∃ h : j < (x :: y :: l).length,JE q.length ((x :: y :: l)[j]).1 = bb) ∧ (t = false → ∀ h : j < (x :: y :: l).length,JE q.length ((x :: y :: l)[j]).1 ≠ bb)) ?_ ?_
         · refine hv.len ?_
           refine ZF (fun h1 => ?_) fun h1 => ⟨false,rfl,BA.drew,fun h => (by cases h),fun _ h => by omega⟩
           have Qq5 : j < (x :: y :: l).length:=by omega
           refine (hv.Q4 QAW.drew).key j rfl Qq5 fun ka hka => ?_
           refine hka.rd n (hlm j Qq5 hij) rfl ?_
           refine (hv.Q4 QAW.drew).key i rfl hil fun kb hkb => ?_
           refine hkb.rd n (hlm i hil (Nat.le_refl _)) rfl ?_
           rw [BS,BS,← hql,hbb]
           refine ⟨_,rfl,BA.drew,fun h => ⟨Qq5,?_⟩,fun h _ e => ?_⟩
           · exact UInt8.toNat_inj.1 (by exact_mod_cast (by simpa using h : ((JE q.length ((x :: y :: l)[j]).1).toNat : Int) = (bb.toNat : Int)))
           · rw [e] at h; simp at h
         · rintro vs g w8 ⟨t,rfl,E9,ht,hf⟩
           have hEB8:=QAX.Q0 E9
           cases t with
           | true =>
             obtain ⟨Qq5,hbj⟩:=ht rfl
             refine Qr rfl ?_
             refine xi (r:=((j + 1 : Nat) : Int)) (by rw [QQ (by omega)]; omega) ?_
             refine JP ((x :: y :: l).length - (j + 1)) (by omega) ⟨j + 1,rfl,rfl,by omega,by omega,fun u hu => ?_,E9⟩
             rw [show j + 1 - i = (j - i) + 1 by omega,← List.take_append_getElem (show j - i < ((x :: y :: l).drop i).length by rw [List.length_drop]; omega)] at hu
             rcases List.mem_append.1 hu with e | e
             · exact EC u e
             · rw [List.mem_singleton.1 e,List.getElem_drop]
               simp only [show i + (j - i) = j by omega]
               exact hbj
           | false =>
             have hstop:=hf rfl
             refine Qp rfl ?_
             have hjgt : i < j:=by
              refine Classical.byContradiction fun hn => ?_
              have e : j = i:=by omega
              subst e
              exact hstop hil hbb
             have QmZ:=hrr.groups hlong (n:=j - i) EC (by omega) (fun y' hy' => by
              rw [List.getElem?_drop,show i + (j - i) = j by omega] at hy'
              obtain ⟨h1,h2⟩:=List.getElem?_eq_some_iff.1 hy'
              rw [← h2]; exact hstop h1)
             rw [List.drop_drop,show i + (j - i) = j by omega] at QmZ
             have QzY : (x :: y :: l)[i] ∈ ((x :: y :: l).drop i).take (j - i):=by
              rw [List.mem_take_iff_getElem]
              exact ⟨0,by rw [List.length_drop]; omega,by simp⟩
             have hb8:=(hb6.ext E9 fun h => h).drew
             have Quo:=(Qup.ext E9 fun h => h).drew
             have hEw8 : Ext No w w8.drew:=(MC.Q0 E9).drew
             refine hb8.ld (o:=4) (v:=vb) rfl ?_
             refine (hv.Q4 hEB8.drew).key i rfl hil fun kb hkb => ?_
             refine hkb.rd n (hlm i hil (Nat.le_refl _)) rfl ?_
             rw [BS,← hql,hbb]
             show Qs w8.drew [bv bb] Qm _
             refine Qz fun tb w9 htb Qz5 htz Ym => ?_
             have Qzt : Own w8.drew w.heap.size Qm 1 vb (dom fun c => (kids c).opt).length ((dom fun c => (kids c).opt).map bv):=Own.Q4 Qq1 E9.drew
             have Qzs : Own w8.drew w.heap.size Zz 6 vk (dom fun c => (kids c).opt).length cells:=Own.Q4 QmI E9.drew
             have hb9:=hb8.ext Ym fun h => h
             have Qze:=Quo.ext Ym fun h => h
             have Q56:=Own.Q4 Qzt Ym
             have QhH:=Own.Q4 Qzs Ym
             have QAR : Ext No w w9:=hEw8.Q0 Ym
             refine ⟨(hb9.cell 4).trans rfl,?_⟩
             have hsl1 : Sl w9 (tyQ Qm) (.slice (some ⟨tb,0,none⟩) 1 1) 1 1 [bv bb]:=by
              have:=Qz5.sl (o:=0) (n:=1) (cap:=1) (by simp) (Nat.le_refl _)
              simpa using this
             have hdle : (dom fun c => (kids c).opt).length ≤ 256:=BR _
             have hz9:=QAR.size
             refine Vi Uq Q56 hz9 hsl1 (fun u hu => by rw [List.mem_singleton.1 hu]; rfl) (by omega) (by omega) fun vb' Dn Qbi J9 _ hvbb => ?_
             have Qjb : vb.ownBlock ≠ some nb:=Own.neB Q56 hb9 (by decide)
             have Qja : vb.ownBlock ≠ some rb:=Own.neB Q56 Qze (by decide)
             have Q9p:=hb9.ext J9 Qjb
             have Qsj:=Qze.ext J9 Qja
             have Quw : Own Dn w.heap.size Zz 6 vk (dom fun c => (kids c).opt).length cells:=Own.ext QhH J9 fun b hb hb' => Own.ne QhH Q56 (by decide) hb hb'
             have QAV : Ext No w Dn:=QAR.own Q56 (Nat.le_refl _) J9
             have Q7v : vb'.ownBlock ≠ some nb:=Own.neB Qbi Q9p (by decide)
             have QuA : vb'.ownBlock ≠ some rb:=Own.neB Qbi Qsj (by decide)
             refine Q9p.st1 (o:=4) (by simp) (Own.R9 Qbi) rfl fun AL Q5T QyL K9 => ?_
             have Q5T : QZ AL nb [.int .i64 0,.slice pa part.length pc,.bool val.isSome,u64 (val.getD 0),vb',vk] Zz:=Q5T
             have Qsi:=Qsj.ext K9 fun e => by have : rb = nb:=e; omega
             have QmK:=Own.ext Qbi K9 fun b hb e => Q7v (by rw [hb]; exact congrArg some e)
             have QmH:=Own.ext Quw K9 fun b hb e => QhG (by rw [hb]; exact congrArg some e)
             have Qnf : Ext No w AL:=QAV.Z0 K9 QuC
             refine Q5T.drew.ld (o:=5) (v:=vk) rfl ?_
             refine hv.part i j rfl rfl hij hjl fun vg hvg => ?_
             refine xi (r:=(((q ++ [bb]).length : Nat) : Int)) (by rw [QQ (by omega)]; simp [hql]) ?_
             have hgk : (((x :: y :: l).drop i).take (j - i)).length ≤ k:=by
              have hk' : l.length + 1 ≤ k:=by simp at hk; omega
              have h1 : (((x :: y :: l).drop i).take (j - i)).length ≤ j - i:=by rw [List.length_take]; omega
              have h2 : (x :: y :: l).length = l.length + 2:=by simp
              by_cases e : x.1.length = q.length
              · rw [if_pos e] at hL'
                have h3 : L'.length = l.length + 1:=by rw [← hL']; simp
                have h4 : done.length + ((x :: y :: l).length - i) = L'.length:=by rw [← hdr]; simp
                omega
              · refine Classical.byContradiction fun hn' => ?_
                rw [if_neg e] at hL' hval
                have hi' : i = 0:=by omega
                have hj' : j = l.length + 2:=by omega
                subst hi'
                rw [List.drop_zero,hj',Nat.sub_zero,List.take_of_length_le (by simp)] at EC
                obtain ⟨u,hu,c,r,hc,h | ⟨u',hu',d,r',hd,hcd⟩⟩:=hpt.two
                · rw [← hval] at h; cases h
                · apply hcd
                  have e1:=EC u hu
                  have e2:=EC u' hu'
                  rw [hc,JY] at e1
                  rw [hd,JY] at e2
                  rw [e1,e2]
             have QAZ : Ext No wB AL.drew:=(heB.Q0 Qnf).drew
             refine (ih hgk (by rw [List.length_take]; omega) hvg QAZ (List.Pairwise.sublist (List.take_sublist _ _) hrr) (fun u hu => hs u (hLs u (hrest u (List.mem_of_mem_take hu)))) (fun u hu => ?_) (by simp; omega)).mono ?_
             · obtain ⟨c,r,hc⟩:=hlong u (List.mem_of_mem_take hu)
               have:=EC u hu
               rw [hc,JY] at this
               rw [hc,this]
               exact ⟨r,by simp⟩
             · rintro r Rw ⟨e,cs,rfl,Qmy,QsA,JX⟩
               have Q7B : Ext No AL Rw:=JX.KP
               obtain ⟨c0,c1,c2,c3,c4,c5,hcs⟩:=six Qmy.len.1
               have hcs1:=Qmy.len.2
               have Qjh:=Q5T.ext Q7B fun h => h
               have Qzi:=Qsi.ext Q7B fun h => h
               have Quz:=Own.Q4 QmK Q7B
               have Quv:=Own.Q4 QmH Q7B
               have QAU : Ext No w Rw:=Qnf.Q0 Q7B
               refine ⟨(Qjh.cell 5).trans rfl,?_⟩
               rw [hcs]
               show Qs Rw [c0,c1,c2,c3,c4,c5] Zz _
               rw [← hcs]
               refine Qz fun tb2 w13 htb2 Quj htz2 XK => ?_
               have Qna:=Qjh.ext XK fun h => h
               have Qsh:=Qzi.ext XK fun h => h
               have QmJ:=Own.Q4 Quz XK
               have Qbh:=Own.Q4 Quv XK
               have QsI : Ext No w w13:=QAU.Q0 XK
               refine ⟨(Qna.cell 5).trans rfl,?_⟩
               have hsl2 : Sl w13 (tyQ Zz) (.slice (some ⟨tb2,0,none⟩) 1 1) 6 1 cs:=Quj.sln (by rw [Qmy.len.1])
               have QyJ:=QsI.size
               refine Vi QqA Qbh QyJ hsl2 hcs1 (by omega) (by omega) fun vk' w14 QmG UZ _ QpW => ?_
               have hb14:=Qna.ext UZ QhG
               have Qzh:=Qsh.ext UZ Qmr
               have Quy:=Own.ext QmJ UZ fun b hb hb' => Own.ne QmJ Qbh (by decide) hb hb'
               have QAT : Ext No w w14:=QsI.own Qbh (Nat.le_refl _) UZ
               have Qms : vk'.ownBlock ≠ some nb:=fun h => by
                rcases QpW nb h with h' | h'
                · exact QhG h'
                · have:=Qna.lt; omega
               have Quh : vk'.ownBlock ≠ some rb:=fun h => by
                rcases QpW rb h with h' | h'
                · exact Qmr h'
                · have:=Qsh.lt; omega
               refine hb14.st1 (o:=5) (by simp) (Own.R9 QmG) rfl fun w15 Qv7 QJb Db => ?_
               have Qv7 : QZ w15 nb [.int .i64 0,.slice pa part.length pc,.bool val.isSome,u64 (val.getD 0),vb',vk'] Zz:=Qv7
               have Qzg:=Qzh.ext Db fun e => by have : rb = nb:=e; omega
               have Qux:=Own.ext Quy Db fun b hb e => Q7v (by rw [hb]; exact congrArg some e)
               have Quu:=Own.ext QmG Db fun b hb e => Qms (by rw [hb]; exact congrArg some e)
               have QAS : Ext No w w15:=QAT.Z0 Db QuC
               have hsome : e.opt.isSome:=by
                obtain ⟨r,hr0⟩:=QcT (hpt.all _ (hLs _ (hrest _ (hmem i hil (Nat.le_refl _))))) (hlong.lt (hmem i hil (Nat.le_refl _)))
                rw [hbb] at hr0
                refine QsA.some (k:=r) ?_
                show (look (((x :: y :: l).drop i).take (j - i)) ((q ++ [bb]) ++ r)).isSome
                cases hlk : look (((x :: y :: l).drop i).take (j - i)) ((q ++ [bb]) ++ r) with
                | some => rfl
                | none => exact absurd (by rw [hr0]; simp) (KQ.1 hlk _ QzY)
               have QAa : ∀ c ∈ dom (fun c => (kids c).opt),c.toNat < bb.toNat:=fun c hc => by
                obtain ⟨kk,vv,Wq⟩:=(XE c).fine.V8 (E.BQ.1 (Zd.1 hc))
                rw [(XE c).get] at Wq
                have h1:=hsep _ (Ez Wq) _ (hmem i hil (Nat.le_refl _))
                rw [hbb] at h1
                have h2 : JE q.length (q ++ c :: kk) = c:=JY q c kk
                rw [h2] at h1
                exact h1
               have hdom:=QqB (kids:=kids) (b:=bb) hsome QAa
               have QAb : (dom fun c => (JU kids bb e c).opt).length = (dom fun c => (kids c).opt).length + 1:=by rw [hdom]; simp
               have QAj : cells.length = (dom fun c => (kids c).opt).length * 6:=QmI.1
               have hbbn : bb ∉ dom (fun c => (kids c).opt):=fun h => by have:=QAa bb h; omega
               refine JP ((x :: y :: l).length - j) (by omega) ⟨j,_,vb',vk',done ++ ((x :: y :: l).drop i).take (j - i),JU kids bb e,cells ++ cs,rfl,rfl,hjl,?_,Qv7,Qzg,QAS,?_,?_,Qms,Quh,fun m c hm => ?_,fun c => ?_,fun u hu y' hy' => ?_⟩
               · have : (x :: y :: l).drop j = ((x :: y :: l).drop i).drop (j - i):=by rw [List.drop_drop,show i + (j - i) = j by omega]
                 rw [this,List.append_assoc,List.take_append_drop,hdr]
               · rw [hdom,List.map_append,List.length_append]
                 exact Qux
               · rw [QAb]
                 exact Quu
               · rw [hdom] at hm
                 rcases Nat.lt_or_ge m (dom fun c => (kids c).opt).length with hm' | hm'
                 · rw [List.getElem?_append_left hm'] at hm
                   have hcb : c ≠ bb:=fun e' => hbbn (e' ▸ List.mem_of_getElem? hm)
                   have hseg : ((cells ++ cs).drop (m * 6)).take 6 = (cells.drop (m * 6)).take 6:=by
                    rw [List.drop_append_of_le_length (by omega),List.take_append_of_le_length (by rw [List.length_drop]; omega)]
                   rw [hseg,ZN _ _ hcb]
                   have r1:=(hrc m c hm).fresh E9.drew
                   have r2:=r1.Q4 Ym
                   have r3:=r2.ext J9 fun b hX hb hq => by
                    rcases hq.1 with hq' | hq'
                    · have:=(Own.ge Q56 hX).1; omega
                    · exact hq'.2.2.2.1 hX
                   have r4:=r3.ext K9 fun b hX hb hq => by
                    have hX : b = nb:=hX
                    subst hX
                    rcases hq.1 with hq' | hq'
                    · omega
                    · exact hq'.2.1 rfl
                   have r5:=(r4.Q4 Q7B).Q4 XK
                   have r6:=r5.ext UZ fun b hX hb hq => by
                    rcases hq.1 with hq' | hq'
                    · have:=(Own.ge Qbh hX).1; omega
                    · exact hq'.2.2.2.2 hX
                   have r7:=r6.ext Db fun b hX hb hq => by
                    have hX : b = nb:=hX
                    subst hX
                    rcases hq.1 with hq' | hq'
                    · omega
                    · exact hq'.2.1 rfl
                   refine r7.weak fun b _ hq => ?_
                   obtain ⟨hq,hbl⟩:=hq
                   rcases hq with hq | hq
                   · exact .inl hq
                   · refine .inr ⟨hq.1,hq.2.1,hq.2.2.1,fun h => ?_,fun h => ?_⟩
                     · rcases hvbb b h with h' | h'
                       · exact hq.2.2.2.1 h'
                       · have:=E9.size
                         have:=Ym.size
                         have z8 : w8.drew.heap.size = w8.heap.size:=rfl
                         omega
                     · rcases QpW b h with h' | h'
                       · exact hq.2.2.2.2 h'
                       · have:=E9.size
                         have:=Ym.size
                         have:=J9.size
                         have:=Q7B.size
                         have:=XK.size
                         have z8 : w8.drew.heap.size = w8.heap.size:=rfl
                         omega
                 · have hmm : m = (dom fun c => (kids c).opt).length:=by
                    have:=(List.getElem?_eq_some_iff.1 hm).1
                    simp at this; omega
                   subst hmm
                   rw [List.getElem?_append_right (Nat.le_refl _),Nat.sub_self] at hm
                   have hcb : bb = c:=by simpa using hm
                   subst hcb
                   have hseg : ((cells ++ cs).drop ((dom fun c => (kids c).opt).length * 6)).take 6 = cs:=by
                    rw [← QAj,List.drop_left,List.take_of_length_le (by rw [Qmy.len.1]; omega)]
                   rw [hseg,JI]
                   have hz11':=Q5T.lt
                   have r1:=Qmy.fresh XK
                   have Qsu : ∀ {b},vk.ownBlock = some b → w.heap.size ≤ b ∧ b < AL.heap.size:=fun {b} h => Own.ge QmH h
                   have r2:=r1.ext UZ fun b hX hb hq => by
                    have h1:=Qsu hX
                    have h0 : AL.drew.heap.size = AL.heap.size:=rfl
                    rcases hq.1 with hq' | hq' <;> omega
                   have r3:=r2.ext Db fun b hX hb hq => by
                    have hX : b = nb:=hX
                    subst hX
                    have h0 : AL.drew.heap.size = AL.heap.size:=rfl
                    rcases hq.1 with hq' | hq' <;> omega
                   refine r3.weak fun b _ hq => ?_
                   obtain ⟨hq,hbl⟩:=hq
                   rcases hq with hq | hq
                   · exact .inl hq
                   · have h0 : AL.drew.heap.size = AL.heap.size:=rfl
                     have h9:=Qnf.size
                     refine .inr ⟨by omega,by omega,by have:=Qsi.lt; omega,fun h => ?_,fun h => ?_⟩
                     · have:=(Own.ge QmK h).2; omega
                     · rcases QpW b h with h' | h'
                       · have:=(Qsu h').2; omega
                       · have:=XK.size; omega
               · refine Can.group (kids:=kids) XE (QsA.congr fun r => by rw [List.append_assoc]; rfl) (fun u hu e' => ?_) EC c
                 have:=hsep u hu _ (hmem i hil (Nat.le_refl _))
                 rw [hbb,e'] at this
                 omega
               · have hy2 : y' ∈ (x :: y :: l).drop i:=by
                  have : (x :: y :: l).drop j = ((x :: y :: l).drop i).drop (j - i):=by rw [List.drop_drop,show i + (j - i) = j by omega]
                  rw [this] at hy'
                  exact List.mem_of_mem_drop hy'
                 rcases List.mem_append.1 hu with e' | e'
                 · exact hsep u e' y' hy2
                 · rw [EC u e']
                   have hne':=QmZ y' hy'
                   have hd0 : (x :: y :: l).drop i = (x :: y :: l)[i] :: (x :: y :: l).drop (i + 1):=List.drop_eq_getElem_cons hil
                   have hle : bb ≤ JE q.length y'.1:=by
                    obtain ⟨c,r,hc⟩:=hlong _ (hmem i hil (Nat.le_refl _))
                    obtain ⟨d,r',hd⟩:=hlong y' hy2
                    have e1 : bb = c:=by rw [← hbb,hc,JY]
                    have e2 : JE q.length y'.1 = d:=by rw [hd,JY]
                    rw [e1,e2]
                    rw [hd0] at hrr hy2
                    rcases hrr.first hy2 with h' | h'
                    · exact Qc2 hc hd h'
                    · rw [h'] at hc
                      rw [hc] at hd
                      have:=List.append_cancel_left hd
                      simp at this
                      rw [this.1]
                      exact UInt8.le_refl d
                   have h1:=UInt8.le_iff_toNat_le.1 hle
                   have h2 : (JE q.length y'.1).toNat ≠ bb.toNat:=fun h => hne' (UInt8.toNat_inj.1 h)
                   omega
       · have hi2 : i = (x :: y :: l).length:=by omega
         rw [hi2,List.drop_length,List.append_nil] at hdr
         subst hdr
         refine hb6.ld (o:=5) (v:=vk) rfl ?_
         refine KN QmI.sl ?_
         have QAk : (dom fun c => (kids c).opt).length ≤ 256:=BR _
         refine (QjO QAk).mono ?_
         rintro r w7 ⟨rfl,rfl⟩
         have QhJ:=Can.groups (val:=val) (kids:=kids) Ng XE hpt.get hpt.vl hpt.all hpt.two
         have hne : (dom fun c => (kids c).opt).length ≠ 0:=by
          obtain ⟨u,hu,c,r,hc,-⟩:=hpt.two
          have hu2 : ((kids c)).opt.isSome:=(XE c).some (k:=r) (by
           rw [hpt.get]
           cases hlk : look (x :: y :: l) (q ++ c :: r) with
           | some => rfl
           | none => exact absurd hc (KQ.1 hlk u hu))
          have h9:=P7 (m:=fun c => (kids c).opt) (c:=c) hu2
          unfold cnt at h9
          omega
         refine hb6.st1 (o:=0) (by simp) rfl rfl fun w8 hb8 hz8 KJ => ?_
         have hb8 : QZ w8 nb [.int .i64 (Kl (dom fun c => (kids c).opt).length),.slice pa part.length pc,.bool val.isSome,u64 (val.getD 0),vb,vk] Zz:=hb8
         refine hb8.JH (by simp) ?_
         have E9 : Ext No w w8:=MC.Z0 KJ QuC
         have Quo:=Qup.ext KJ fun e => by have : rb = nb:=e; omega
         obtain ⟨va,vc,hvbs⟩ : ∃ a c,vb = .slice a (dom fun c => (kids c).opt).length c:=by
          rcases Qq1.2 with ⟨h1,h2⟩ | ⟨g,cap,cur,h1,-⟩
          · exact ⟨none,0,by rw [h1,h2]⟩
          · exact ⟨_,_,h1⟩
         obtain ⟨ka,kc,hvks⟩ : ∃ a c,vk = .slice a (dom fun c => (kids c).opt).length c:=by
          rcases QmI.2 with ⟨h1,h2⟩ | ⟨g,cap,cur,h1,-⟩
          · exact ⟨none,0,by rw [h1,h2]⟩
          · exact ⟨_,_,h1⟩
         refine JW Quo (by kernel_rfl) (by simp) (fun u hu => by
          simp only [List.mem_cons,List.mem_nil_iff,or_false] at hu
          rcases hu with rfl | rfl | rfl | rfl | rfl | rfl
          · rfl
          · rfl
          · rfl
          · rfl
          · rw [hvbs]; rfl
          · rw [hvks]; rfl) fun w9 hb9 hz9 Ym => ?_
         refine hb9.JH (by simp) ?_
         have OA : Ext No w w9:=E9.Z0 Ym (by omega)
         refine ⟨.node part val kids,_,rfl,?_,QhJ,OA⟩
         have hbig : ∀ {b' : Nat},Ext (· = b') w7 w8 → True:=fun _ => trivial
         have hok : ∀ b,vb.ownBlock = some b → b ≠ nb ∧ b ≠ rb:=fun b hb' => by
          rcases Qq1.2 with ⟨rfl,-⟩ | ⟨g,cap,cur,rfl,-,hg,-⟩
          · cases hb'
          · simp only [Value.ownBlock,Option.some.injEq] at hb'
            subst hb'
            constructor
            · intro e; subst e
              have:=hg.symm.trans hb6.h
              simp at this
              exact absurd this.2 (by decide)
            · intro e; subst e
              have:=hg.symm.trans Qup.h
              simp at this
              exact absurd this.2 (by decide)
         have Q56 : Own w9 w.heap.size Qm 1 vb (dom fun c => (kids c).opt).length ((dom fun c => (kids c).opt).map bv):=Own.ext (Own.ext Qq1 KJ fun b hb' e => (hok b hb').1 e) Ym fun b hb' e => (hok b hb').2 e
         have QhH : Own w9 w.heap.size Zz 6 vk (dom fun c => (kids c).opt).length cells:=Own.ext (Own.ext QmI KJ fun b hb' e => QhG (by rw [hb']; exact congrArg some e)) Ym fun b hb' e => Qmr (by rw [hb']; exact congrArg some e)
         have hq : ∀ {T : TypeId} {sz n : Nat} {v : Value} {xs : List Value},Own w9 w.heap.size T sz v n xs → Sl w9 (fun b t => t = T ∧ w.heap.size ≤ b) v sz n xs:=fun {T sz n v xs} ho => by
          obtain ⟨a,cap,rfl,hl,hc,ha⟩:=ho.sl
          refine ⟨a,cap,rfl,hl,hc,?_⟩
          cases a with
          | none => exact ha
          | some ad =>
            rcases ha with h0 | ⟨b,o,cs,t,fz,rfl,h1,h2,h3,h4⟩
            · exact .inl h0
            have hge : w.heap.size ≤ b:=by
             rcases ho.2 with ⟨h,-⟩ | ⟨g,cap',cur,h,hg,-⟩
             · cases h
             · simp only [Value.slice.injEq,Option.some.injEq,Addr.mk.injEq] at h
               rw [h.1.1]; exact hg
            exact .inr ⟨b,o,cs,t,fz,rfl,⟨h1,hge⟩,h2,h3,h4⟩
         refine ⟨.slice pa part.length pc,vb,vk,cells,?_,?_,(hq Q56).weak fun b t h => ⟨.inl h.1,.inr h.2⟩,(hq QhH).weak fun b t h => .inr h.2,fun j c hc => ?_,Qut,Qui⟩
         · unfold Q7l
           rw [if_neg hne]
           simp
         · exact (Sl.Qcv hvp fun b t hb h => ⟨h,.inl hb⟩).Q4 (heB.Q0 OA)
         · have h1:=hrc j c hc
           have h2:=h1.ext KJ fun b e hb hq => by
            have e : b = nb:=e
            subst e
            rcases hq with hq | hq
            · omega
            · exact hq.2.1 rfl
           have h3:=h2.ext Ym fun b e hb hq => by
            have e : b = rb:=e
            subst e
            rcases hq with hq | hq
            · omega
            · exact hq.2.2.1 rfl
           exact h3.weak fun b _ hq => hq.imp id fun h => h.1
end
end Go.Proofs.YtbnhggfiembejaaGreatDoor
end
end
section
namespace Go.Proofs.YtbnhggfiembejaaGreatDoor
open Go Go.RowKit X
set_option linter.unusedSimpArgs false
set_option linter.unusedVariables false
set_option linter.unusedSectionVars false
theorem X.Sl.QJ0 {w : World} {T : Nat → TypeId → Prop} {v : Value} {sz n : Nat} {cells : List Value} {K : Value → Value → Prop} {kd : IntKind} {i : Int} (h : Sl w T v sz n cells) (m : Nat) (hi : i = (m : Int)) (hm : m < n)
  (k : ∀ p,(∀ w',Sl w' T v sz n cells → Za w' p (.agg ((cells.drop (m * sz)).take sz).toArray)) → K p (.agg ((cells.drop (m * sz)).take sz).toArray)) :
  Zb v (.int kd i) sz fun u => Z6 u fun a => Qo w a sz fun x => K u x:=by
 have hl:=h.len
 have hle : (m + 1) * sz ≤ n * sz:=Nat.mul_le_mul_right sz hm
 rw [Nat.succ_mul] at hle
 have key : ∀ w',Sl w' T v sz n cells → ∃ a cap,v = .slice (some a) n cap ∧ ∀ o,o < sz → w'.cell? ((a.add (m * sz)).add o) = cells[m * sz + o]?:=by
  rintro w' ⟨a,cap,rfl,hl,hc,ha⟩
  cases a with
  | none => exact absurd ha (by omega)
  | some ad =>
    rcases ha with h0 | ⟨b,of,cs,t,fz,rfl,hT,h2,h3,h4⟩
    · omega
    refine ⟨_,cap,rfl,fun o ho => ?_⟩
    rw [Addr.add_lit,Addr.add_lit]
    have:=h4 (m * sz + o) (by omega)
    simp only [World.cell?,h2]
    simp
    rw [show of + m * sz + o = of + (m * sz + o) by omega]
    exact this
 obtain ⟨a,cap,rfl,hc⟩:=key w h
 have hseg : ∀ o,o < sz → ((cells.drop (m * sz)).take sz).toArray[o]? = cells[m * sz + o]?:=fun o ho => by simp [List.getElem?_take,ho,List.getElem?_drop]
 have hsz : ((cells.drop (m * sz)).take sz).toArray.size = sz:=by simp; omega
 refine ⟨m,hi,hm,⟨_,hsz,fun o ho => by rw [hc o ho,hseg o ho],k _ fun w' h' => ?_⟩⟩
 obtain ⟨a',cap',e,hc'⟩:=key w' h'
 simp only [Value.slice.injEq,Option.some.injEq] at e
 obtain ⟨rfl,-,rfl⟩:=e
 intro o ho
 have ho : o < sz:=by rw [hsz] at ho; exact ho
 rw [hc' o ho,hseg o ho]
variable [Floor]
section
theorem Qea {w : World} {v : Value} {l : Kv} (hll : l.length ≤ 1099511627776) (hv : Ps w v l) (hr : Zp l) (hs : ∀ x ∈ l,x.1.length ≤ 65535) :
  Q6 P Em [v] w fun r w' => ∃ e cs,r = .agg cs.toArray ∧ RC w' (fun _ => True) e cs ∧ Can e (look l) ∧ Ext No w w':=by
 refine Q9z ?_
 refine Qz fun rb w1 hrb hblk hz he1 => ?_
 refine (QnT l.length (p:=[]) (Nat.le_refl _) hll hv he1 hr hs (fun x _ => List.nil_prefix) (by simp)).mono ?_
 rintro r w2 ⟨e,cs,rfl,hrc,XE,he2⟩
 have hblk2 : QZ w2 rb Pe Zz:=hblk.ext he2 fun h => h
 have hlen:=hrc.len
 refine JW hblk2 (by rw [hlen.1]; kernel_rfl) (by rw [hlen.1]; simp) hlen.2 fun w3 hb3 hz3 QE => ?_
 have hb3 : QZ w3 rb cs Zz:=by
  have e1 : (Pe.drop (0 + cs.length)) = []:=by rw [hlen.1]; rfl
  rw [e1] at hb3
  simpa using hb3
 refine hb3.JH hlen.1 ?_
 have hs1:=he1.size
 refine ⟨e,cs,rfl,?_,XE,(he1.Q0 he2).Z0 QE (by omega)⟩
 exact (hrc.ext QE fun b hX hb hq => by
  have hX : b = rb:=hX
  subst hX
  have:=he2.size
  rcases hq with hq | hq <;> omega).weak fun _ _ _ => trivial
theorem Qe9 : ∀ (e : E) {w : World} {cs : List Value},RC w (fun _ => True) e cs → e.ZV → e.shape.length ≤ 70368744177664 → Q6 P Bh [.agg cs.toArray] w fun r w' => r = str e.shape ∧ Ext No w w':=by
 intro e
 induction e with
 | nil =>
   intro w cs hrc _ _
   have : cs = Pe:=hrc
   subst this
   refine Q0O ?_
   refine Qz fun nb w1 hnb hblk hz he => ?_
   have hblk : QZ w1 nb Pe Zz:=hblk
   refine hblk.ld (o:=0) (v:=.int .i64 0) rfl ?_
   exact Qr rfl ⟨rfl,he⟩
 | node part val kids ih =>
   intro w cs hrc hf hn
   obtain ⟨vp,vb,vk,cells,rfl,hvp,hvb,hvk,QdH,hpl,hv64⟩:=hrc
   obtain ⟨hf1,hf2,hf3⟩:=Dc hf
   have QAk : (dom fun c => (kids c).opt).length ≤ 256:=BR _
   have hce : (dom fun c => (kids c).opt).length = Y2 kids:=rfl
   have QyU : Bs w vp part:=hvp.weak fun b t h => h.1
   refine Q0O ?_
   refine Qz fun nb w1 hnb hblk hz he => ?_
   have hblk : QZ w1 nb [.int .i64 (Q7l (dom fun c => (kids c).opt).length),vp,.bool val.isSome,u64 (val.getD 0),vb,vk] Zz:=by simpa [QJ] using hblk
   have hxl:=ED part
   have hvl : (Ew val).length ≤ 21:=by
    cases val with
    | none => simp [Ew]
    | some v =>
      have:=A9 v (hv64 v rfl)
      simp [Ew]; omega
   have hgd : val.getD 0 < 18446744073709551616:=by
    cases val with
    | none => simp
    | some v => exact hv64 v rfl
   by_cases hc : (dom fun c => (kids c).opt).length = 0
   · have hk1 : Q7l (dom fun c => (kids c).opt).length = 1:=by unfold Q7l; rw [if_pos hc]
     rw [hk1] at hblk
     refine hblk.ld (o:=0) (v:=.int .i64 (1 : Nat)) rfl ?_
     refine Qp rfl ?_
     refine hblk.ld (o:=0) (v:=.int .i64 (1 : Nat)) rfl ?_
     refine Qr rfl ?_
     refine hblk.drew.ld (o:=1) (v:=vp) rfl ?_
     refine hblk.drew.ld (o:=3) (v:=u64 (val.getD 0)) rfl ?_
     refine (QbL (QyU.Q4 he.drew) (by omega)).mono ?_
     rintro r w2 ⟨rfl,he2⟩
     refine ⟨((hblk.drew.ext he2 fun h => h).cell 3).trans rfl,?_⟩
     refine Ru (l:=[76]) (by simp; omega) ?_
     refine Ru (m:=[61]) (by simp; omega) ?_
     refine (Q7Y hgd).mono ?_
     rintro r w3 ⟨rfl,rfl⟩
     have hdl:=A9 _ hgd
     refine Ru (by simp; omega) ?_
     refine ⟨?_,he.drew.Q0 he2⟩
     rw [E.shape,if_pos (by rw [← hce]; exact hc)]
     have hvs:=hf1 (by rw [← hce]; exact hc)
     obtain ⟨v,hv⟩:=Option.isSome_iff_exists.1 hvs
     subst hv
     congr 2
     simp [Ew]
   · have hk1 : Q7l (dom fun c => (kids c).opt).length = Kl (dom fun c => (kids c).opt).length:=by unfold Q7l; rw [if_neg hc]
     rw [hk1] at hblk
     have hkp : 4 ≤ Kl (dom fun c => (kids c).opt).length ∧ Kl (dom fun c => (kids c).opt).length ≤ 256:=by
      unfold Kl
      repeat' split
      all_goals omega
     generalize hkd : Kl (dom fun c => (kids c).opt).length = kd at hblk hkp
     refine hblk.ld (o:=0) (v:=.int .i64 kd) rfl ?_
     refine Qp (by simp; omega) ?_
     refine hblk.ld (o:=0) (v:=.int .i64 kd) rfl ?_
     refine Qp (by simp; omega) ?_
     refine hblk.drew.ld (o:=0) (v:=.int .i64 kd) rfl ?_
     refine xi (r:=(kd : Int)) (G5 (by omega)) ?_
     refine hblk.drew.ld (o:=1) (v:=vp) rfl ?_
     refine (Q7Y (n:=kd) (by omega)).mono ?_
     rintro r w2 ⟨rfl,rfl⟩
     have hdk:=A9 kd (by omega)
     refine ⟨(hblk.drew.cell 1).trans rfl,?_⟩
     refine Ru (m:=[60]) (by simp; omega) ?_
     refine (QbL (QyU.Q4 he.drew) (by omega)).mono ?_
     rintro r w3 ⟨rfl,QE⟩
     have JD:=he.drew.Q0 QE
     have hb3:=hblk.drew.ext QE fun h => h
     refine Ru (by simp; omega) ?_
     refine xj (fun vs w' => vs = [str (Xb kd ++ [60] ++ Da part ++ Ew val)] ∧ Ext No w w' ∧ QZ w' nb [.int .i64 kd,vp,.bool val.isSome,u64 (val.getD 0),vb,vk] Zz) ?_ ?_
     · refine hb3.ld (o:=2) (v:=.bool val.isSome) rfl ?_
       cases val with
       | none => exact Qp rfl ⟨by simp [Ew],JD,hb3⟩
       | some v =>
         refine Qr rfl ?_
         refine hb3.ld (o:=3) (v:=u64 v) rfl ?_
         refine (Q7Y (hv64 v rfl)).mono ?_
         rintro r w4 ⟨rfl,rfl⟩
         have hdl:=A9 v (hv64 v rfl)
         refine Ru (l:=[61]) (by simp; omega) ?_
         refine Ru (by simp; omega) ?_
         exact ⟨by simp [Ew],JD,hb3⟩
     rintro vs g w4 ⟨rfl,U9,hb4⟩
     have hsh : (E.node part val kids).shape = Xb kd ++ [60] ++ Da part ++ Ew val ++ ((dom fun c => (kids c).opt).flatMap fun c => 58 :: (Bb c ++ (kids c).shape)) ++ [62]:=by
      rw [E.shape,if_neg (by rw [← hce]; exact hc),← hkd,hce]
      simp only [List.append_assoc,List.cons_append,List.nil_append,List.singleton_append]
     rw [hsh] at hn ⊢
     refine JN (fun nn vs w' => ∃ i : Nat,vs = [.int .i64 i,str (Xb kd ++ [60] ++ Da part ++ Ew val ++ (((dom fun c => (kids c).opt).take i).flatMap fun c => 58 :: (Bb c ++ (kids c).shape)))] ∧ nn = (dom fun c => (kids c).opt).length - i ∧ i ≤ (dom fun c => (kids c).opt).length ∧ Ext No w w' ∧
       QZ w' nb [.int .i64 kd,vp,.bool val.isSome,u64 (val.getD 0),vb,vk] Zz) (dom fun c => (kids c).opt).length ⟨0,by simp,rfl,by omega,U9,hb4⟩ ?_
     rintro nn vs g w5 ⟨i,rfl,rfl,hi,WX,hb5⟩
     refine hb5.ld (o:=5) (v:=vk) rfl ?_
     refine KN hvk ?_
     refine ZF (fun hlt => ?_) fun hge => ?_
     · have hil : i < (dom fun c => (kids c).opt).length:=by omega
       generalize hcc : (dom fun c => (kids c).opt)[i] = c
       have hget : (dom fun c => (kids c).opt)[i]? = some c:=by rw [List.getElem?_eq_getElem hil,hcc]
       have Qve:=WX.drew
       refine hb5.drew.ld (o:=4) (v:=vb) rfl ?_
       refine (hvb.Q4 Qve).rd1 (x:=bv c) i rfl hil (by rw [List.getElem?_map,hget]; rfl) ?_
       refine hb5.drew.ld (o:=5) (v:=vk) rfl ?_
       refine (hvk.Q4 Qve).QJ0 i rfl hil fun pp hpp => ?_
       show Qs w5.drew [bv c] Qm _
       refine Qz fun a w6 ha hbl hz6 Ke => ?_
       have MC:=Qve.Q0 Ke
       refine ⟨hpp _ (hvk.Q4 MC),((hb5.drew.ext Ke fun h => h).cell 5).trans rfl,?_⟩
       have hbs : Bs w6 (.slice (some ⟨a,0,none⟩) 1 1) [c]:=by
        have:=hbl.sl (o:=0) (n:=1) (cap:=1) (by simp) (Nat.le_refl _)
        exact Bs.of (by simpa using this)
       refine (QbL hbs (by simp)).mono ?_
       rintro r w7 ⟨rfl,Yy⟩
       have BA:=MC.Q0 Yy
       have hb7:=(hb5.drew.ext Ke fun h => h).ext Yy fun h => h
       refine ⟨hpp _ (hvk.Q4 BA),(hb7.cell 5).trans rfl,?_⟩
       have hx1 : Da [c] = Bb c:=by simp [Da]
       rw [hx1]
       have hsplit : ((dom fun c => (kids c).opt).flatMap fun c => 58 :: (Bb c ++ (kids c).shape)).length = (((dom fun c => (kids c).opt).take i).flatMap fun c => 58 :: (Bb c ++ (kids c).shape)).length + (3 + (kids c).shape.length) + (((dom fun c => (kids c).opt).drop (i + 1)).flatMap fun c => 58 :: (Bb c ++ (kids c).shape)).length:=by
        have h1 : (dom fun c => (kids c).opt) = (dom fun c => (kids c).opt).take i ++ c :: (dom fun c => (kids c).opt).drop (i + 1):=by
         rw [← hcc,List.getElem_cons_drop,List.take_append_drop]
        conv => lhs; rw [h1]
        simp [Bb]
        omega
       have QAo : (Xb kd ++ [60] ++ Da part ++ Ew val ++ (((dom fun c => (kids c).opt).take i).flatMap fun c => 58 :: (Bb c ++ (kids c).shape))).length + (3 + (kids c).shape.length) ≤ 70368744177664:=by
        simp only [List.length_append] at hn ⊢
        omega
       refine Ru (l:=[58]) (by simp [Bb]) ?_
       refine (ih c ((QdH i c hget).Q4 BA) (hf3 c) (by omega)).mono ?_
       rintro r w8 ⟨rfl,KJ⟩
       refine Ru (by simp [Bb]; omega) ?_
       refine Ru (by simp only [List.length_append] at QAo ⊢; simp [Bb] at QAo ⊢; omega) ?_
       refine xi (r:=((i + 1 : Nat) : Int)) (by rw [QQ (by omega)]; omega) ?_
       refine JP ((dom fun c => (kids c).opt).length - (i + 1)) (by omega) ⟨i + 1,?_,rfl,by omega,BA.Q0 KJ,hb7.ext KJ fun h => h⟩
       have h2 : (dom fun c => (kids c).opt).take (i + 1) = (dom fun c => (kids c).opt).take i ++ [c]:=by rw [← List.take_append_getElem hil,hcc]
       rw [h2,List.flatMap_append]
       simp
     · have : i = (dom fun c => (kids c).opt).length:=by omega
       subst this
       rw [List.take_length]
       refine Ru (m:=[62]) (by simp only [List.length_append] at hn ⊢; simp only [List.length_singleton] at hn ⊢; omega) ?_
       exact ⟨rfl,WX⟩
end
end Go.Proofs.YtbnhggfiembejaaGreatDoor
end
