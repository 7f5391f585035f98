import Derived.Test.YtbnhggfiembejaaGreatDoorUni3
section
namespace Go.Proofs.YtbnhggfiembejaaGreatDoor
open Go Go.RowKit X
set_option linter.unusedSimpArgs false
set_option linter.unusedVariables false
set_option linter.unusedSectionVars false
theorem QjI {k k' : UInt8 → E} (h : ∀ c,(k c).opt.isSome = true → (k' c).opt.isSome = true) : Y2 k ≤ Y2 k':=by
 show (Rf.filter fun c => ((k c).opt).isSome).length ≤ (Rf.filter fun c => ((k' c).opt).isSome).length
 rw [← List.countP_eq_length_filter,← List.countP_eq_length_filter]
 exact List.countP_mono_left fun c _ => h c
theorem Qan {q : Key} {v v' : Option Nat} {k k' : UInt8 → E} (h : (E.node q v k).ZV) (hv : v.isSome = true → v'.isSome = true) (hk : ∀ c,(k c).opt.isSome = true → (k' c).opt.isSome = true) (hf : ∀ c,(k' c).ZV) : (E.node q v' k').ZV:=by
 obtain ⟨h1,h2,h3⟩:=Dc h
 have hc:=QjI hk
 have ho : one v ≤ one v':=by
  unfold one
  split
  · rename_i hs; rw [if_pos (hv hs)]; exact Nat.le_refl _
  · exact Nat.zero_le _
 refine Ws (fun h0 => hv (h1 (by omega))) (fun h0 => ?_) hf
 by_cases h00 : Y2 k = 0
 · have : one v = 1:=by unfold one; rw [if_pos (h1 h00)]
   omega
 · have:=h2 h00
   omega
theorem Qbu {e : E} {k : Key} (h : (e.get k).isSome = true) : e.opt.isSome = true:=by
 cases e with
 | nil => cases h
 | node => rfl
variable [Floor]
theorem QfO {a ow : Nat} {part : Key} {val : Option Nat} {ks : List Nat} {kids : UInt8 → T} : part.length ≤ (T.node a ow part val ks kids).er.long:=by
 have hlong : (T.node a ow part val ks kids).er.long = CZ ((dom (ptrs kids)).map fun c => (kids c).er.long + 1) + part.length:=by
  show (E.node part val fun c => (kids c).er).long = _
  rw [E.Ky,Ec]
 omega
theorem Q3W {a ow : Nat} {part : Key} {val : Option Nat} {ks : List Nat} {kids : UInt8 → T} {c : UInt8} (h : c ∈ dom (ptrs kids)) : part.length + 1 + (kids c).er.long ≤ (T.node a ow part val ks kids).er.long:=by
 have hlong : (T.node a ow part val ks kids).er.long = CZ ((dom (ptrs kids)).map fun c => (kids c).er.long + 1) + part.length:=by
  show (E.node part val fun c => (kids c).er).long = _
  rw [E.Ky,Ec]
 have:=Ay (l:=(dom (ptrs kids)).map fun c => (kids c).er.long + 1) (List.mem_map.2 ⟨c,h,rfl⟩)
 omega
theorem FN.base {wS w w' : World} {u o n : Nat} {q : Key} {val : Option Nat} {Jw : List Nat} {kids : UInt8 → T} {mt : Option Y3} (e : Ext (MX mt) wS w) (h : FN w w' u o q val Jw kids mt n) : FN wS w' u o q val Jw kids mt n :=
 ⟨h.tree,fun b hb => by have:=h.fresh b hb; have:=e.size; omega,h.apart,h.cnt,e.QI h.ext⟩
def LS (wS : World) (Qq : Option Nat) (ZO : List Nat) (Q7 : UInt8 → T) (q : Key) (o : Nat) (mt : Option Y3) (w : World) (m : Nat) (nv : Value) (val : Option Nat) (kids : UInt8 → T) : Prop :=
 (nv = .pointer none ∧ val = Qq ∧ kids = Q7 ∧ Mt w mt m ∧ Ext (MX mt) wS w) ∨ ∃ u Jw,nv = rp u ∧ FN wS w u o q val Jw kids mt m ∧ (Jw = [] ↔ ZO = [])
section
variable {wS w : World} {aa Jk ba KZ o p n oa ob jb bb oo M : Nat} {apart Qi : Key} {Qq QW V : Option Nat} {ZO Km : List Nat} {Q7 Qd : UInt8 → T} {mt : Option Y3} {nv : Value} {q : Key} {m : Nat} {kids : UInt8 → T}
theorem LS.cn (h : LS wS Qq ZO Q7 q o mt w m nv V kids) : Mt w mt m ∧ Ext (MX mt) wS w:=by
 rcases h with ⟨-,-,-,h1,h2⟩ | ⟨u,Jw,-,h,-⟩
 · exact ⟨h1,h2⟩
 · exact ⟨h.cnt,h.ext⟩
theorem LS.go (h : LS wS Qq ZO Q7 q o mt w m nv V kids) {w' : World} {m' : Nat} (e : Ext (MX mt) w w') (hm : Mt w' mt m') : LS wS Qq ZO Q7 q o mt w' m' nv V kids:=by
 rcases h with ⟨h1,h2,h3,h4,h5⟩ | ⟨u,Jw,h1,h2,h3⟩
 · exact .inl ⟨h1,h2,h3,hm,h5.QI e⟩
 · exact .inr ⟨u,Jw,h1,h2.go e hm,h3⟩
theorem LS.Q4 (h : LS wS Qq ZO Q7 q o mt w m nv V kids) {w' : World} (e : Ext No w w') : LS wS Qq ZO Q7 q o mt w' m nv V kids:=h.go (e.mono fun _ _ h => h.elim) (h.cn.1.Q4 e)
theorem QqF {K : Value → World → Prop} (hI : OfS p o mt M) (ha : Wv wS (.node aa Jk apart Qq ZO Q7) oa) (hb : Wv wS (.node ba KZ Qi QW Km Qd) ob) (Qjk : ZO ≠ []) (ho : o ≠ 0) (hMm : ((T.node aa Jk apart Qq ZO Q7).er.long + 1 - oa) + ((T.node ba KZ Qi QW Km Qd).er.long + 1 - ob) ≤ M)
  (hmS : Mt wS mt n) (hj : QZ wS jb (Ms p o mt) Zy) (hB : QZ wS bb [(T.node aa Jk apart Qq ZO Q7).v,.int .i64 oa] Qj) (hO : QZ wS oo [(T.node ba KZ Qi QW Km Qd).v,.int .i64 ob] Qj)
  (hls : LS wS Qq ZO Q7 (apart.drop oa) o mt w m nv V Q7) (hid : V = Qq → (∀ c r,Zx p ((Q7 c).er.get r) ((Qd c).er.get r) = (Q7 c).er.get r) → nv = .pointer none ∧ m = n)
  (hK : ∀ w' nv' m' Vl,LS wS Qq ZO Q7 (apart.drop oa) o mt w' m' nv' V Vl → (∀ c,Can (Vl c).er fun r => Zx p ((Q7 c).er.get r) ((Qd c).er.get r)) → (∀ c,(Vl c).ZJ) →
   (∀ c x,(Vl c).All x → (T.node aa Jk apart Qq ZO Q7).All x ∨ (T.node ba KZ Qi QW Km Qd).All x ∨ wS.heap.size ≤ x) →
   (V = Qq → (∀ c r,Zx p ((Q7 c).er.get r) ((Qd c).er.get r) = (Q7 c).er.get r) → nv' = .pointer none ∧ m' = n) →
   Q6 P Jj [Mr p o mt,nv',AA (.node aa Jk apart Qq ZO Q7) oa] w' K) :
  Q6 P QP [(T.node ba KZ Qi QW Km Qd).v,.int .i64 0] w fun Vk Eu =>
   Qb Vk 0 fun Wz => Qb Vk 1 fun Ud =>
   Jn [Ud,Wz,undef,undef,nv] Eu (Xx K ⟨jb,0,none⟩ ⟨bb,0,none⟩ ⟨oo,0,none⟩):=by
 have Nh : oa ≤ apart.length:=ha.off
 have QdB : ob ≤ Qi.length:=hb.off
 obtain ⟨hm0,hE0⟩:=hls.cn
 have la:=QfO (a:=aa) (ow:=Jk) (part:=apart) (val:=Qq) (ks:=ZO) (kids:=Q7)
 refine (WS ((hb.tree.YL hmS hE0)) (i:=0) (by omega)).mono ?_
 rintro _ w1 ⟨rfl,he1⟩
 have Qbj : Vx (ptrs (T.node ba KZ Qi QW Km Qd).kid) 0 = .tuple #[nxB (dom (ptrs Qd)),nxP (ptrs Qd) (dom (ptrs Qd))]:=YZ (VI _)
 rw [Qbj]
 refine JN (fun nn vs w' => ∃ (d rest : List UInt8) (x2 x3 nv' : Value) (Vl : UInt8 → T) (m' : Nat),vs = [nxP (ptrs Qd) rest,nxB rest,x2,x3,nv'] ∧ nn = rest.length ∧ dom (ptrs Qd) = d ++ rest ∧
   LS wS Qq ZO Q7 (apart.drop oa) o mt w' m' nv' V Vl ∧ (∀ c ∈ d,Can (Vl c).er fun r => Zx p ((Q7 c).er.get r) ((Qd c).er.get r)) ∧ (∀ c,c ∉ d → Vl c = Q7 c) ∧ (∀ c,(Vl c).ZJ) ∧
   (∀ c x,(Vl c).All x → (T.node aa Jk apart Qq ZO Q7).All x ∨ (T.node ba KZ Qi QW Km Qd).All x ∨ wS.heap.size ≤ x) ∧
   (V = Qq → (∀ c r,Zx p ((Q7 c).er.get r) ((Qd c).er.get r) = (Q7 c).er.get r) → nv' = .pointer none ∧ m' = n)) (dom (ptrs Qd)).length
  ⟨[],_,_,_,_,Q7,m,rfl,rfl,rfl,hls.Q4 he1,(fun c h => by cases h),fun c _ => rfl,ha.QR.2,fun c x h => .inl (.inr ⟨c,h⟩),hid⟩ ?_
 rintro nn vs g w2 ⟨d,rest,x2,x3,nv2,Bl,m2,rfl,rfl,hdr,hL,XE,hrest,hlf,hall,QzX⟩
 unfold Xx
 obtain ⟨hm2,hE2⟩:=hL.cn
 have hj2:=hj.ext hE2 (hmS.ne hj (by decide))
 have hB2:=hB.ext hE2 (hmS.ne hB (by decide))
 have hO2:=hO.ext hE2 (hmS.ne hO (by decide))
 have ha2:=ha.YL hmS hE2
 have hb2:=hb.YL hmS hE2
 cases rest with
 | nil =>
   rw [List.append_nil] at hdr
   have hn0 : ∀ K : Value → Prop,K (.bool false) → Y1 P w2 (nxP (ptrs Qd) []) (.pointer none) K:=fun K k => k
   refine hn0 _ ?_
   refine Qp rfl ?_
   refine hj2.JH rfl ?_
   refine hB2.JH rfl ?_
   refine (hK w2 nv2 m2 Bl hL (fun c => ?_) hlf hall QzX).mono fun v w' h => h
   by_cases hc : c ∈ d
   · exact XE c hc
   · rw [hrest c hc]
     have hbn : Qd c = .nil:=by
      cases e : Qd c with
      | nil => rfl
      | node => exact absurd (by rw [← hdr]; exact Zd.2 (by simp [ptrs,e,T.ptr])) hc
     exact ⟨ha.fine.2 c,fun r => by rw [hbn]; show _ = Zx p _ none; rw [UY]⟩
 | cons c rest =>
   have hcd : c ∈ dom (ptrs Qd):=by rw [hdr]; simp
   have hcnd : c ∉ d:=fun h => by
    have:=Xl (ptrs Qd)
    rw [hdr] at this
    have h2:=(List.pairwise_append.1 this).2.2 c h c (by simp)
    exact absurd h2 (by simp)
   have hkc : Bl c = Q7 c:=hrest c hcnd
   obtain ⟨ka,hka⟩:=Option.isSome_iff_exists.1 (Zd.1 hcd)
   have hka : (Qd c).ptr = some ka:=hka
   have hbn : Qd c ≠ .nil:=fun e => by rw [e] at hka; cases hka
   have hne : ∀ K : Value → Prop,K (.bool true) → Y1 P w2 (nxP (ptrs Qd) (c :: rest)) (.pointer none) K:=fun K k => by
    show Y1 P w2 (.pointer (Qd c).ptr) (.pointer none) K
    rw [hka]; exact k
   have hlA : (Q7 c).er.long ≤ (T.node aa Jk apart Qq ZO Q7).er.long:=by
    by_cases h : c ∈ dom (ptrs Q7)
    · have:=Q3W (a:=aa) (ow:=Jk) (part:=apart) (val:=Qq) (ks:=ZO) h; omega
    · have : Q7 c = .nil:=by
       cases e : Q7 c with
       | nil => rfl
       | node => exact absurd (Zd.2 (by simp [ptrs,e,T.ptr])) h
      rw [this]; exact Nat.zero_le _
   have hlB:=Q3W (a:=ba) (ow:=KZ) (part:=Qi) (val:=QW) (ks:=Km) hcd
   have hzS:=hE2.size
   refine hne _ ?_
   refine Qr rfl ?_
   refine xj (fun vs w' => ∃ (z0 z1 nv3 : Value) (Wo : UInt8 → T) (m3 : Nat),vs = [z0,z1,nv3] ∧ LS wS Qq ZO Q7 (apart.drop oa) o mt w' m3 nv3 V Wo ∧
     (∀ e ∈ d ++ [c],Can (Wo e).er fun r => Zx p ((Q7 e).er.get r) ((Qd e).er.get r)) ∧ (∀ e,e ∉ d ++ [c] → Wo e = Q7 e) ∧ (∀ e,(Wo e).ZJ) ∧
     (∀ e x,(Wo e).All x → (T.node aa Jk apart Qq ZO Q7).All x ∨ (T.node ba KZ Qi QW Km Qd).All x ∨ wS.heap.size ≤ x) ∧
     (V = Qq → (∀ e r,Zx p ((Q7 e).er.get r) ((Qd e).er.get r) = (Q7 e).er.get r) → nv3 = .pointer none ∧ m3 = n)) ?_ ?_
   · refine hB2.ld (v:=(T.node aa Jk apart Qq ZO Q7).v) rfl ?_
     refine (FI ha2.tree (b:=c)).mono ?_
     rintro _ w3 ⟨rfl,QE⟩
     have Po:=hj2.ext QE fun h => h
     have hB3:=hB2.ext QE fun h => h
     refine Po.JH rfl ?_
     show Q6 P ZT [Mr p o mt,AA (Q7 c) 0,AA (Qd c) 0] w3 _
     have ha3:=ha2.Q4 QE
     have hb3:=hb2.Q4 QE
     have hL3:=hL.Q4 QE
     have Dw:=hL3.cn.1
     have hz3:=QE.size
     have ga : Wv w3 (Q7 c) 0:=⟨ha3.tree.2 c,ha.fine.2 c,ha.QR.2 c,by have:=ha.long; omega,Nat.zero_le _⟩
     have gb : Wv w3 (Qd c) 0:=⟨hb3.tree.2 c,hb.fine.2 c,hb.QR.2 c,by have:=hb.long; omega,Nat.zero_le _⟩
     have QmN : ((Q7 c).er.long + 1 - 0) + ((Qd c).er.long + 1 - 0) < M:=by
      by_cases h : c ∈ dom (ptrs Q7)
      · have:=Q3W (a:=aa) (ow:=Jk) (part:=apart) (val:=Qq) (ks:=ZO) h; omega
      · have : Q7 c = .nil:=by
         cases e : Q7 c with
         | nil => rfl
         | node => exact absurd (Zd.2 (by simp [ptrs,e,T.ptr])) h
        rw [this]; show (0 + 1 - 0) + _ < M; omega
     refine (hI QmN ga gb Dw).mono ?_
     rintro _ w4 ⟨t2,n2,rfl,hU⟩
     have Qn5 : Can t2.er (fun r => Zx p ((Q7 c).er.get r) ((Qd c).er.get r)):=hU.can.congr fun r => by rw [Xq,Xq]
     have QmS : (∀ r,Zx p ((Q7 c).er.get r) ((Qd c).er.get r) = (Q7 c).er.get r) → t2.ptr = (Q7 c).ptr ∧ n2 = m2:=fun h => hU.idle rfl fun r => by rw [Xq]; exact h r
     have ht2n : t2 ≠ .nil:=fun e => by
      have hbne : (Qd c).er ≠ .nil:=by
       cases e : Qd c with
       | nil => exact absurd e hbn
       | node => simp [T.er]
      obtain ⟨k,v,hk⟩:=E.ZV.V8 (hb.fine.2 c) hbne
      have:=Qn5.get k
      rw [e] at this
      have h2:=congrArg Option.isSome this
      rw [XH,hk] at h2
      simp [T.er,E.get] at h2
     obtain ⟨a2,ow2,p2,v2,ks2,kids2',Q5R⟩ : ∃ a ow p v ks k,t2 = .node a ow p v ks k:=by
      cases h : t2 with
      | nil => exact absurd h ht2n
      | node => exact ⟨_,_,_,_,_,_,rfl⟩
     have hp2 : t2.ptr = some ⟨a2,0,none⟩:=by rw [Q5R]; rfl
     have hv2 : t2.v = rp a2:=by show Value.pointer t2.ptr = _; rw [hp2]
     have hj4:=Po.ext hU.ext (Dw.ne Po (by decide))
     have hB4:=hB3.ext hU.ext (Dw.ne hB3 (by decide))
     have hL4:=hL3.go hU.ext hU.cnt
     have ha4:=ha3.YL Dw hU.ext
     have Ro:=hU.ext.size
     have QAu : ∀ x,t2.All x → (T.node aa Jk apart Qq ZO Q7).All x ∨ (T.node ba KZ Qi QW Km Qd).All x ∨ wS.heap.size ≤ x:=fun x hx => by
      rcases hU.all x hx with h | h | h
      · exact .inl (.inr ⟨c,h⟩)
      · exact .inr (.inl (.inr ⟨c,h⟩))
      · exact .inr (.inr (by omega))
     have eqC : t2.ptr = (Q7 c).ptr → ∃ (z0 z1 nv3 : Value) (Wo : UInt8 → T) (m3 : Nat),[(Q7 c).v,t2.v,nv2] = [z0,z1,nv3] ∧ LS wS Qq ZO Q7 (apart.drop oa) o mt w4 m3 nv3 V Wo ∧
       (∀ e ∈ d ++ [c],Can (Wo e).er fun r => Zx p ((Q7 e).er.get r) ((Qd e).er.get r)) ∧ (∀ e,e ∉ d ++ [c] → Wo e = Q7 e) ∧ (∀ e,(Wo e).ZJ) ∧
       (∀ e x,(Wo e).All x → (T.node aa Jk apart Qq ZO Q7).All x ∨ (T.node ba KZ Qi QW Km Qd).All x ∨ wS.heap.size ≤ x) ∧
       (V = Qq → (∀ e r,Zx p ((Q7 e).er.get r) ((Qd e).er.get r) = (Q7 e).er.get r) → nv3 = .pointer none ∧ m3 = n):=fun e => by
      have her:=Tree.inj hU.tree (ha4.tree.2 c) e
      refine ⟨_,_,nv2,Bl,n2,rfl,hL4,fun e he => ?_,fun e he => hrest e fun h => he (List.mem_append_left _ h),hlf,hall,fun hV hmg => ?_⟩
      · rcases List.mem_append.1 he with h | h
        · exact XE e h
        · have h2 : (Bl c).er = t2.er:=by rw [hkc,her]
          rw [List.mem_singleton.1 h,h2]; exact Qn5
      · obtain ⟨h1,h2⟩:=QzX hV hmg
        exact ⟨h1,by rw [(QmS (hmg c)).2]; exact h2⟩
     have fin : t2.ptr ≠ (Q7 c).ptr → ∀ {w5 : World} {u : Nat} {Jw : List Nat} {m5 : Nat},FN wS w5 u o (apart.drop oa) V Jw Bl mt m5 → (Jw = [] ↔ ZO = []) → Ext (MX mt) w4 w5 → (∀ x,t2.All x → ¬ NX u Jw x) → QZ w5 jb (Ms p o mt) Zy →
       QC w5 ⟨jb,2,none⟩ fun MN => Q6 P QL [rp u,MN,bv c,t2.v] w5 fun _ w' => ∃ (z0 z1 nv3 : Value) (Wo : UInt8 → T) (m3 : Nat),[(Q7 c).v,t2.v,rp u] = [z0,z1,nv3] ∧ LS wS Qq ZO Q7 (apart.drop oa) o mt w' m3 nv3 V Wo ∧
       (∀ e ∈ d ++ [c],Can (Wo e).er fun r => Zx p ((Q7 e).er.get r) ((Qd e).er.get r)) ∧ (∀ e,e ∉ d ++ [c] → Wo e = Q7 e) ∧ (∀ e,(Wo e).ZJ) ∧
       (∀ e x,(Wo e).All x → (T.node aa Jk apart Qq ZO Q7).All x ∨ (T.node ba KZ Qi QW Km Qd).All x ∨ wS.heap.size ≤ x) ∧
       (V = Qq → (∀ e r,Zx p ((Q7 e).er.get r) ((Qd e).er.get r) = (Q7 e).er.get r) → nv3 = .pointer none ∧ m3 = n):=by
      intro hne2 w5 u Jw m5 hF hiff QmW hd hj5
      refine hj5.ld (v:=.int .u64 o) rfl ?_
      rw [hv2]
      refine (Q4b hF ho (fun h => Qjk (hiff.1 h)) hp2 (hU.tree.YL hU.cnt QmW) hd).mono ?_
      rintro _ w6 ⟨Yb,hF6,QdC,-,-⟩
      refine ⟨_,_,rp u,Zt Bl c t2,m5,rfl,.inr ⟨u,Yb,rfl,hF6,iff_of_false QdC Qjk⟩,fun e he => ?_,fun e he => ?_,fun e => ?_,fun e x hx => ?_,fun hV hmg => absurd (QmS (hmg c)).1 hne2⟩
      · by_cases h : e = c
        · subst h; rw [Vo]; exact Qn5
        · rw [WJ _ _ h]
          rcases List.mem_append.1 he with h' | h'
          · exact XE e h'
          · exact absurd (List.mem_singleton.1 h') h
      · have h : e ≠ c:=fun h => he (by rw [h]; simp)
        rw [WJ _ _ h]
        exact hrest e fun h => he (List.mem_append_left _ h)
      · unfold Zt; split
        · exact hU.QR
        · exact hlf e
      · unfold Zt at hx; split at hx
        · exact QAu x hx
        · exact hall e x hx
     have neC : t2.ptr ≠ (Q7 c).ptr → Qo w4 ⟨jb,0,none⟩ 4 fun RG => Qo w4 ⟨bb,0,none⟩ 2 fun Q21 => Q6 P Jd [RG,nv2,Q21] w4 fun Ph Q6L => QC Q6L ⟨jb,2,none⟩ fun MN => Q6 P QL [Ph,MN,bv c,t2.v] Q6L fun _ w' => ∃ (z0 z1 nv3 : Value) (Wo : UInt8 → T) (m3 : Nat),[(Q7 c).v,t2.v,Ph] = [z0,z1,nv3] ∧ LS wS Qq ZO Q7 (apart.drop oa) o mt w' m3 nv3 V Wo ∧
       (∀ e ∈ d ++ [c],Can (Wo e).er fun r => Zx p ((Q7 e).er.get r) ((Qd e).er.get r)) ∧ (∀ e,e ∉ d ++ [c] → Wo e = Q7 e) ∧ (∀ e,(Wo e).ZJ) ∧
       (∀ e x,(Wo e).All x → (T.node aa Jk apart Qq ZO Q7).All x ∨ (T.node ba KZ Qi QW Km Qd).All x ∨ wS.heap.size ≤ x) ∧
       (V = Qq → (∀ e r,Zx p ((Q7 e).er.get r) ((Qd e).er.get r) = (Q7 e).er.get r) → nv3 = .pointer none ∧ m3 = n):=fun hne2 => by
      refine hj4.JH rfl ?_
      refine hB4.JH rfl ?_
      rcases hL with ⟨rfl,rfl,rfl,-,-⟩ | ⟨u,Jw,rfl,hF,hiff⟩
      · refine (Q5i (p:=p) ha4.tree hU.cnt ho Nh).mono ?_
        rintro _ w5 ⟨u,Jw,rfl,hF5,hiff⟩
        have hF5' : FN wS w5 u o (apart.drop oa) V Jw Bl mt (n2 + 1):=hF5.base hL4.cn.2
        refine fin hne2 hF5' hiff hF5.ext (fun x hx hn => ?_) (hj4.ext hF5.ext (hU.cnt.ne hj4 (by decide)))
        have:=hF5.fresh x hn
        have:=hU.tree.lt hx
        omega
      · refine Qe5.mono ?_
        rintro _ w5 ⟨rfl,ZR⟩
        have hF5:=((hF.Q4 QE).go hU.ext hU.cnt).Q4 ZR
        refine fin hne2 hF5 hiff (ZR.mono fun _ _ h => h.elim) (fun x hx hn => ?_) (hj4.ext ZR fun h => h)
        have h1:=hF.fresh x hn
        have h2:=hF.lt hn
        rcases hU.all x hx with h | h | h
        · exact hF.apart c x (by rw [hkc]; exact h) hn
        · have:=hb.tree.lt (b:=x) (.inr ⟨c,h⟩); omega
        · omega
     have hb1 : ∀ a1,(Q7 c).ptr = some ⟨a1,0,none⟩ → ∃ cs T,QZ w4 a1 cs T:=fun a1 h => by
      have h1:=ha4.tree.2 c
      cases QzQ : Q7 c with
      | nil => rw [QzQ] at h; cases h
      | node a3 ow3 p3 v3 ks3 Wo =>
        rw [QzQ] at h h1
        obtain rfl : a3 = a1:=by simpa [T.ptr] using h
        obtain ⟨pv,hb,-⟩:=h1.1.blk
        exact ⟨_,_,hb⟩
     have hb2' : ∃ cs T,QZ w4 a2 cs T:=by
      have:=hU.tree
      rw [Q5R] at this
      obtain ⟨pv,hb,-⟩:=this.1.blk
      exact ⟨_,_,hb⟩
     have hpk : (Q7 c).ptr = none ∨ ∃ a1,(Q7 c).ptr = some ⟨a1,0,none⟩:=by
      cases Q7 c with
      | nil => exact .inl rfl
      | node a3 => exact .inr ⟨a3,rfl⟩
     obtain ⟨cs2,T2,hb2'⟩:=hb2'
     rcases hpk with h | ⟨a1,h⟩
     · have e0 : ∀ K : Value → Prop,K (.bool true) → Y1 P w4 t2.v (Q7 c).v K:=fun K k => by
        show Ia P w4 (.pointer t2.ptr) (.pointer (Q7 c).ptr) _
        rw [hp2,h]; exact k
       refine e0 _ ?_
       refine Qr rfl ?_
       exact neC (by rw [hp2,h]; simp)
     · obtain ⟨cs1,T1,hb1⟩:=hb1 a1 h
       by_cases e : a2 = a1
       · have e0 : ∀ K : Value → Prop,K (.bool false) → Y1 P w4 t2.v (Q7 c).v K:=fun K k => by
          show Ia P w4 (.pointer t2.ptr) (.pointer (Q7 c).ptr) _
          rw [hp2,h,e]
          exact I9 (t:=true) (run_sameAddr_same _ _) k
         refine e0 _ ?_
         refine Qp rfl ?_
         exact eqC (by rw [hp2,h,e])
       · have e0 : ∀ K : Value → Prop,K (.bool true) → Y1 P w4 t2.v (Q7 c).v K:=fun K k => by
          show Ia P w4 (.pointer t2.ptr) (.pointer (Q7 c).ptr) _
          rw [hp2,h]
          exact I9 (t:=false) (run_sameAddr_other _ (by simp [e]) hb2'.h hb1.h) k
         refine e0 _ ?_
         refine Qr rfl ?_
         exact neC (by rw [hp2,h]; simp [e])
   · rintro vs g w3 ⟨z0,z1,nv3,Wo,m3,rfl,hL3,QAl,hrest3,hlf3,QAw,hid3⟩
     obtain ⟨Dw,JD⟩:=hL3.cn
     refine (hO.ext JD (hmS.ne hO (by decide))).ld (v:=(T.node ba KZ Qi QW Km Qd).v) rfl ?_
     have hcb:=MV c
     refine xi (r:=(c.toNat : Int)) (QQ (by omega)) ?_
     refine xi (r:=((c.toNat + 1 : Nat) : Int)) (by rw [QQ (by omega)]; omega) ?_
     refine (WS (hb.YL hmS JD).tree (i:=c.toNat + 1) (by omega)).mono ?_
     rintro r w4 ⟨rfl,Zl⟩
     have hnx : Vx (ptrs (T.node ba KZ Qi QW Km Qd).kid) (c.toNat + 1) = .tuple #[nxB rest,nxP (ptrs Qd) rest]:=YZ (UI hdr)
     rw [hnx]
     exact JP rest.length (by simp) ⟨d ++ [c],rest,z0,z1,nv3,Wo,m3,rfl,rfl,by rw [hdr]; simp,hL3.Q4 Zl,QAl,hrest3,hlf3,QAw,hid3⟩
end
end Go.Proofs.YtbnhggfiembejaaGreatDoor
end
section
namespace Go.Proofs.YtbnhggfiembejaaGreatDoor
open Go Go.RowKit X
set_option linter.unusedSimpArgs false
set_option linter.unusedVariables false
set_option linter.unusedSectionVars false
variable [Floor]
def QeY (K : Value → World → Prop) (j ea eb bb oo : Nat) (J7 : World) : Prop :=
 Qo J7 ⟨j,0,none⟩ 4 fun Jc =>
 QC J7 ((⟨ea,0,none⟩ : Addr).add 0) fun JS =>
 QC J7 ((⟨eb,0,none⟩ : Addr).add 0) fun Yj =>
 Q6 P Xj [Jc,JS,Yj] J7 fun ZY Kg =>
 Qb ZY 0 fun K5 =>
 Qb ZY 1 fun Yp =>
 QC Kg ((⟨bb,0,none⟩ : Addr).add 0) fun KY =>
 Q6 P Zc [KY] Kg fun K4 X4 =>
 Qb K4 0 fun Js =>
 Qb K4 1 fun JF =>
 XJ (fun TV =>
 XJ (fun F8 =>
 Qcu Yp JF fun KX =>
 Ql KX (F8 [(.bool true)] X4) (Ad K5 Js fun Yi =>
 F8 [Yi] X4)) fun BC QhN XB =>
 Ql (BC.getD 0 undef) (Qo XB ⟨j,0,none⟩ 4 fun Yh =>
 Qo XB ⟨bb,0,none⟩ 2 fun Ki =>
 Q6 P Jd [Yh,(.pointer none),Ki] XB fun YR Gu =>
 QC Gu ((⟨j,0,none⟩ : Addr).add 2) fun YD =>
 Q6 P Zu [YR,YD,K5] Gu fun Y9 Xe =>
 TV [YR] Xe) (TV [(.pointer none)] XB)) fun Q1l Qnn V6 =>
 Qo V6 ⟨oo,0,none⟩ 2 fun Kt =>
 Q6 P Jo [Kt] V6 fun UE Fz =>
 Ql UE (Qo Fz ⟨j,0,none⟩ 4 fun Y8 =>
 Qo Fz ⟨bb,0,none⟩ 2 fun Y7 =>
 Q6 P Jj [Y8,(Q1l.getD 0 undef),Y7] Fz fun Xg Ww =>
 K Xg Ww) (QC Fz ((⟨oo,0,none⟩ : Addr).add 0) fun Ue =>
 Q6 P QP [Ue,(.int .i64 0)] Fz fun Vk Eu =>
 Qb Vk 0 fun Wz =>
 Qb Vk 1 fun Ud =>
 Jn [Ud,Wz,undef,undef,(Q1l.getD 0 undef)] Eu (Xx K ⟨j,0,none⟩ ⟨bb,0,none⟩ ⟨oo,0,none⟩))
theorem QtB {a b : Bool} {K : Value → Prop} (k : K (.bool (!(a == b)))) : Qcu (.bool a) (.bool b) K:=k
theorem Qbc {ks : List Nat} {m : UInt8 → Option Addr} (h : ks ≠ []) : Yx ks m ≠ 1:=by
 unfold Yx
 rw [if_neg h]
 intro h
 have:=Nc (BR m)
 rw [h] at this
 revert this; decide
section
variable {wS w : World} {a b : T} {xa xow ya yow o p n oa ob ox jb ea eb bb oo M m : Nat} {Rs : Key} {Rq V : Option Nat} {xks : List Nat} {Rt kids : UInt8 → T} {mt : Option Y3} {nv : Value}
theorem QnM (hX : Wv wS (.node xa xow Rs Rq xks Rt) ox) (ho : o ≠ 0) (hm : Mt wS mt n) (hj : QZ wS jb (Ms p o mt) Zy) (hB : QZ wS bb [(T.node xa xow Rs Rq xks Rt).v,.int .i64 ox] Qj)
  (hV : V.isSome = false → Rq = none) (h64 : V.getD 0 < 18446744073709551616) :
  XJ (fun F8 => Qcu (.bool V.isSome) (.bool Rq.isSome) fun KX => Ql KX (F8 [(.bool true)] wS) (Ad (.int .u64 (V.getD 0 : Nat)) (.int .u64 (Rq.getD 0 : Nat)) fun Yi => F8 [Yi] wS)) fun BC QhN XB =>
   Ql (BC.getD 0 undef) (Qo XB ⟨jb,0,none⟩ 4 fun Yh => Qo XB ⟨bb,0,none⟩ 2 fun Ki => Q6 P Jd [Yh,(.pointer none),Ki] XB fun YR Gu =>
    QC Gu ((⟨jb,0,none⟩ : Addr).add 2) fun YD => Q6 P Zu [YR,YD,.int .u64 (V.getD 0 : Nat)] Gu fun Y9 Xe =>
    (fun vs w' => ∃ nv m,vs = [nv] ∧ LS wS Rq xks Rt (Rs.drop ox) o mt w' m nv V Rt ∧ (V = Rq → nv = .pointer none ∧ m = n)) [YR] Xe)
    ((fun vs w' => ∃ nv m,vs = [nv] ∧ LS wS Rq xks Rt (Rs.drop ox) o mt w' m nv V Rt ∧ (V = Rq → nv = .pointer none ∧ m = n)) [(.pointer none)] XB):=by
 refine xj (fun vs w' => vs = [.bool (!decide (V = Rq))] ∧ w' = wS) ?_ ?_
 · cases V with
   | none =>
     obtain rfl:=hV rfl
     refine QtB ?_
     refine Qp rfl ?_
     exact ⟨rfl,rfl⟩
   | some v =>
     cases Rq with
     | none =>
       refine QtB ?_
       refine Qr rfl ?_
       exact ⟨rfl,rfl⟩
     | some u =>
       refine QtB ?_
       refine Qp rfl ?_
       refine ⟨?_,rfl⟩
       show [Value.bool (((v : Nat) : Int) != ((u : Nat) : Int))] = _
       by_cases e : v = u
       · subst e; simp
       · rw [decide_eq_false (by simpa using e)]
         congr 2
         simp; omega
 · rintro vs g w1 ⟨rfl,rfl⟩
   by_cases e : V = Rq
   · rw [decide_eq_true e]
     refine Qp rfl ⟨_,n,rfl,.inl ⟨rfl,e,rfl,hm,Ext.refl _ _⟩,fun _ => ⟨rfl,rfl⟩⟩
   · rw [decide_eq_false e]
     obtain ⟨v,rfl⟩ : ∃ v,V = some v:=by
      cases V with
      | none => exact absurd (hV rfl).symm e
      | some v => exact ⟨v,rfl⟩
     refine Qr rfl ?_
     refine hj.JH rfl ?_
     refine hB.JH rfl ?_
     refine (Q5i (p:=p) hX.tree hm ho hX.off).mono ?_
     rintro _ w2 ⟨u,Jw,rfl,hF,hiff⟩
     have hj2:=hj.ext hF.ext (hm.ne hj (by decide))
     refine hj2.ld (v:=.int .u64 o) rfl ?_
     refine (QgO hF ho h64).mono ?_
     rintro _ w3 ⟨hF3,-⟩
     exact ⟨_,_,rfl,.inr ⟨u,Jw,rfl,hF3,hiff⟩,fun h => absurd h e⟩
theorem Qgx (hX : Wv wS (.node xa xow Rs Rq xks Rt) ox) (ho : o ≠ 0) (hmS : Mt wS mt n) (hL : LS wS Rq xks Rt (Rs.drop ox) o mt w m nv V kids) (hcnt : xks = [] ↔ cnt (ptrs kids) = 0) (hlf : ∀ c,(kids c).ZJ) :
  Q6 P Jj [Mr p o mt,nv,AA (.node xa xow Rs Rq xks Rt) ox] w fun r w' => ∃ t' n',r = t'.v ∧ Tree w' t' ∧ Mt w' mt n' ∧ Ext (MX mt) wS w' ∧ t'.ZJ ∧ t'.er = .node (Rs.drop ox) V (fun c => (kids c).er) ∧
   (∀ x,t'.All x → (T.node xa xow Rs Rq xks Rt).All x ∨ (∃ c,(kids c).All x) ∨ wS.heap.size ≤ x) ∧ (nv = .pointer none → ox = 0 → t'.ptr = (T.node xa xow Rs Rq xks Rt).ptr ∧ n' = m):=by
 have hz:=hL.cn.2.size
 rcases hL with ⟨rfl,rfl,rfl,hm,hE⟩ | ⟨u,Jw,rfl,hF,hiff⟩
 · have hX':=hX.YL hmS hE
   refine (Qgz (p:=p) hX'.tree hm ho hX.off).mono ?_
   rintro _ w2 ⟨t',n',rfl,htr,her,hl,hall,hm2,-,hz',he2⟩
   exact ⟨t',n',rfl,htr,hm2,hE.QI he2,hl hX.QR,her,fun x hx => (hall x hx).imp id fun h => .inr (by omega),fun _ h0 => by obtain ⟨rfl,rfl⟩:=hz' h0; exact ⟨rfl,rfl⟩⟩
 · refine Qgy.mono ?_
   rintro _ w2 ⟨rfl,he2⟩
   refine ⟨.node u o (Rs.drop ox) V Jw kids,m,rfl,hF.tree.Q4 he2,hF.cnt.Q4 he2,hF.ext.Q0 he2,⟨hiff.trans hcnt,hlf⟩,rfl,fun x hx => ?_,fun h => by cases h⟩
   rcases hx with hx | hx
   · exact .inr (.inr (hF.fresh x hx))
   · exact .inr (.inl hx)
end
end Go.Proofs.YtbnhggfiembejaaGreatDoor
end
section
namespace Go.Proofs.YtbnhggfiembejaaGreatDoor
open Go Go.RowKit X
set_option linter.unusedSimpArgs false
set_option linter.unusedVariables false
set_option linter.unusedSectionVars false
variable [Floor]
theorem Q3Y {kids : UInt8 → T} (h : cnt (ptrs kids) = 0) (c : UInt8) : kids c = .nil:=by
 have h1:=Qe2 h c
 cases e : kids c with
 | nil => rfl
 | node => simp [ptrs,e,T.ptr] at h1
theorem Qs9 {kids : UInt8 → T} (h : cnt (ptrs kids) ≠ 0) : ∃ c,c ∈ dom (ptrs kids):=by
 cases e : dom (ptrs kids) with
 | nil => exact absurd (by unfold cnt; rw [e]; rfl) h
 | cons c r => exact ⟨c,by simp⟩
section
variable {wS w : World} {aa Jk ba KZ o p n oa ob jb ea eb bb oo M : Nat} {apart Qi : Key} {Qq QW : Option Nat} {ZO Km : List Nat} {Q7 Qd : UInt8 → T} {mt : Option Y3}
theorem Qb1 {w : World} {a ow : Nat} {part : Key} {val : Option Nat} {ks : List Nat} {kids : UInt8 → T} (h : Tree w (.node a ow part val ks kids)) : val.getD 0 < 18446744073709551616:=by
 cases val with
 | none => show 0 < _; omega
 | some v => exact h.1.v64 v rfl
theorem QhB {x y : Option Nat} (hx : x.getD 0 < 18446744073709551616) (hy : y.getD 0 < 18446744073709551616) : (Zx p x y).getD 0 < 18446744073709551616:=by
 cases x with
 | none => exact hy
 | some a =>
   cases y with
   | none => exact hx
   | some b => exact QpF hx hy
theorem QnO (hI : OfS p o mt M) (ha : Wv wS (.node aa Jk apart Qq ZO Q7) oa) (hb : Wv wS (.node ba KZ Qi QW Km Qd) ob) (ho : o ≠ 0) (hp : 1 ≤ p ∧ p ≤ 5) (hM : ((T.node aa Jk apart Qq ZO Q7).er.long + 1 - oa) + ((T.node ba KZ Qi QW Km Qd).er.long + 1 - ob) ≤ M)
  (hq : apart.drop oa = Qi.drop ob) (hns : ZO = [] → Km = []) (hm : Mt wS mt n) (hj : QZ wS jb (Ms p o mt) Zy)
  (hA : QZ wS ea [(T.node aa Jk apart Qq ZO Q7).v,.int .i64 oa] Qj) (hBe : QZ wS eb [(T.node ba KZ Qi QW Km Qd).v,.int .i64 ob] Qj)
  (hB : QZ wS bb [(T.node aa Jk apart Qq ZO Q7).v,.int .i64 oa] Qj) (hO : QZ wS oo [(T.node ba KZ Qi QW Km Qd).v,.int .i64 ob] Qj)
  {K : Value → World → Prop} (hK : ∀ t' n' w',UR wS w' p (.node aa Jk apart Qq ZO Q7) (.node ba KZ Qi QW Km Qd) oa ob t' mt n n' → K t'.v w') : QeY K jb ea eb bb oo wS:=by
 have hva:=Qb1 ha.tree
 have hvb:=Qb1 hb.tree
 unfold QeY
 refine hj.JH rfl ?_
 refine hA.ld (v:=(T.node aa Jk apart Qq ZO Q7).v) rfl ?_
 refine hBe.ld (v:=(T.node ba KZ Qi QW Km Qd).v) rfl ?_
 refine (Qe6 (p:=p) ha.tree hb.tree hp).mono ?_
 rintro _ w1 ⟨rfl,he1⟩
 refine (hB.ext he1 fun h => h).ld (v:=(T.node aa Jk apart Qq ZO Q7).v) rfl ?_
 refine (Cj (ha.tree.Q4 he1)).mono ?_
 rintro _ w2 ⟨rfl,rfl⟩
 have ha1:=ha.Q4 he1
 have hb1:=hb.Q4 he1
 have hm1:=hm.Q4 he1
 have hj1:=hj.ext he1 fun h => h
 have hB1:=hB.ext he1 fun h => h
 have hO1:=hO.ext he1 fun h => h
 have hz1:=he1.size
 generalize hV : Zx p (T.node aa Jk apart Qq ZO Q7).val (T.node ba KZ Qi QW Km Qd).val = V
 have hV : Zx p Qq QW = V:=hV
 have hVs : V.isSome = (Qq.isSome || QW.isSome):=by rw [← hV,XH]
 have fin : ∀ (t' : T) (n' : Nat) (Vl : UInt8 → T) (nv' : Value) (m' : Nat) (w' : World),Tree w' t' → Mt w' mt n' → Ext (MX mt) w2 w' → t'.ZJ → t'.er = .node (apart.drop oa) V (fun c => (Vl c).er) →
   (∀ x,t'.All x → (T.node aa Jk apart Qq ZO Q7).All x ∨ (T.node ba KZ Qi QW Km Qd).All x ∨ w2.heap.size ≤ x) → (∀ c,Can (Vl c).er fun r => Zx p ((Q7 c).er.get r) ((Qd c).er.get r)) →
   (V = Qq → (∀ c r,Zx p ((Q7 c).er.get r) ((Qd c).er.get r) = (Q7 c).er.get r) → nv' = .pointer none ∧ m' = n) → (nv' = .pointer none → oa = 0 → t'.ptr = (T.node aa Jk apart Qq ZO Q7).ptr ∧ n' = m') →
   UR wS w' p (.node aa Jk apart Qq ZO Q7) (.node ba KZ Qi QW Km Qd) oa ob t' mt n n':=by
  intro t' n' Vl nv' m' w' h1 h2 h3 h4 h5 h6 h7 h8 h9
  refine ⟨h1,h2,(he1.mono fun _ _ h => h.elim).QI h3,fun x hx => (h6 x hx).imp id (Or.imp id fun h => by omega),h4,⟨?_,fun k => ?_⟩,fun h0 hmg => ?_⟩
  · rw [h5]
    refine Qan (XW (off:=oa) ha.fine) (fun h => by rw [hVs,h,Bool.true_or]) (fun c h => ?_) fun c => (h7 c).fine
    obtain ⟨k,v,hk⟩:=E.ZV.V8 (ha.fine.2 c) (fun e => by have e : (Q7 c).er = .nil:=e; rw [e] at h; cases h)
    have hk : (Q7 c).er.get k = some v:=hk
    refine Qbu (k:=k) ?_
    rw [(h7 c).get k,XH,hk]; rfl
  · rw [h5]
    show (E.node (apart.drop oa) V fun c => (Vl c).er).get k = Zx p ((E.node (apart.drop oa) Qq fun c => (Q7 c).er).get k) ((E.node (Qi.drop ob) QW fun c => (Qd c).er).get k)
    rw [← hq,← hV]
    exact GZ (fun c r => (h7 c).get r) k
  · subst h0
    have QzA : ∀ k,Zx p ((E.node apart Qq fun c => (Q7 c).er).get k) ((E.node apart QW fun c => (Qd c).er).get k) = (E.node apart Qq fun c => (Q7 c).er).get k:=fun k => by
     have:=hmg k
     have hq' : Qi.drop ob = apart:=by rw [← hq]; rfl
     have e : W9 ob (T.node ba KZ Qi QW Km Qd).er = E.node apart QW fun c => (Qd c).er:=by
      show E.node (Qi.drop ob) QW _ = _
      rw [hq']
     rw [e] at this
     exact this
    have hval : V = Qq:=by
     have:=QzA apart
     rw [get_nil,get_nil] at this
     rw [← hV]; exact this
    have hks : ∀ c r,Zx p ((Q7 c).er.get r) ((Qd c).er.get r) = (Q7 c).er.get r:=fun c r => by
     have:=QzA (apart ++ c :: r)
     rw [Z8,Z8] at this
     exact this
    obtain ⟨g1,g2⟩:=h8 hval hks
    obtain ⟨g3,g4⟩:=h9 g1 rfl
    exact ⟨g3,g4.trans g2⟩
 refine xj (fun vs w' => ∃ nv m,vs = [nv] ∧ LS w2 Qq ZO Q7 (apart.drop oa) o mt w' m nv V Q7 ∧ (V = Qq → nv = .pointer none ∧ m = n)) ?_ ?_
 · refine QnM (p:=p) (V:=V) ha1 ho hm1 hj1 hB1 (fun h => ?_) (by rw [← hV]; exact QhB hva hvb)
   rw [hVs] at h
   cases Qq with
   | none => rfl
   | some => cases h
 rintro vs g w3 ⟨nv,m,rfl,hL,hidle⟩
 obtain ⟨Dw,JD⟩:=hL.cn
 have Po:=hj1.ext JD (hm1.ne hj1 (by decide))
 have hB3:=hB1.ext JD (hm1.ne hB1 (by decide))
 have hO3:=hO1.ext JD (hm1.ne hO1 (by decide))
 refine hO3.JH rfl ?_
 refine (Gp (off:=ob) (hb1.YL hm1 JD).tree).mono ?_
 rintro _ w4 ⟨rfl,Zl⟩
 have hL4:=hL.Q4 Zl
 have hj4:=Po.ext Zl fun h => h
 have hB4:=hB3.ext Zl fun h => h
 have hO4:=hO3.ext Zl fun h => h
 by_cases hbl : Km = []
 · have hbn : ∀ c,Qd c = .nil:=Q3Y (hb.QR.1.1 hbl)
   refine Qr (by show (((Yx Km (ptrs Qd) : Nat) : Int) == 1) = true; unfold Yx; rw [if_pos hbl]; rfl) ?_
   refine hj4.JH rfl ?_
   refine hB4.JH rfl ?_
   refine (Qgx (p:=p) ha1 ho hm1 hL4 ha.QR.1 ha.QR.2).mono ?_
   rintro _ w5 ⟨t',n',rfl,h1,h2,h3,h4,h5,h6,h7⟩
   refine hK t' n' _ (fin t' n' Q7 nv m w5 h1 h2 h3 h4 h5 (fun x hx => ?_) (fun c => ⟨ha.fine.2 c,fun r => by rw [hbn c]; show _ = Zx p _ none; rw [UY]⟩) (fun h _ => hidle h) h7)
   rcases h6 x hx with h | ⟨c,h⟩ | h
   · exact .inl h
   · exact .inl (.inr ⟨c,h⟩)
   · exact .inr (.inr h)
 · have Qjk : ZO ≠ []:=fun h => hbl (hns h)
   refine Qp (beq_eq_false_iff_ne.2 (by have:=Qbc (m:=ptrs Qd) hbl; show ((Yx Km (ptrs Qd) : Nat) : Int) ≠ 1; omega)) ?_
   refine hO4.ld (v:=(T.node ba KZ Qi QW Km Qd).v) rfl ?_
   refine QqF (p:=p) (n:=n) hI ha1 hb1 Qjk ho hM hm1 hj1 hB1 hO1 hL4 (fun h _ => hidle h) ?_
   intro w5 nv5 m5 QyI hL5 QsC hlf5 QAv hid5
   refine (Qgx (p:=p) ha1 ho hm1 hL5 ?_ hlf5).mono ?_
   · refine iff_of_false Qjk fun h0 => ?_
     have hc:=Qs9 (kids:=Q7) (fun h => Qjk (ha.QR.1.2 h))
     obtain ⟨c,hc⟩:=hc
     have h1:=Q3Y h0 c
     obtain ⟨k,v,hk⟩:=E.ZV.V8 (ha.fine.2 c) (fun e => by
      have h2:=Zd.1 hc
      have h3 : (Q7 c).er.opt.isSome = (Q7 c).ptr.isSome:=T.WQ _
      rw [show (Q7 c).er = .nil from e] at h3
      have h2 : (Q7 c).ptr.isSome = true:=h2
      rw [← h3] at h2; cases h2)
     have h2:=(QsC c).get k
     rw [h1] at h2
     have h3:=congrArg Option.isSome h2
     have hk : (Q7 c).er.get k = some v:=hk
     rw [XH,hk] at h3
     simp [T.er,E.get] at h3
   · rintro _ w6 ⟨t',n',rfl,h1,h2,h3,h4,h5,h6,h7⟩
     refine hK t' n' _ (fin t' n' QyI nv5 m5 w6 h1 h2 h3 h4 h5 (fun x hx => ?_) QsC hid5 h7)
     rcases h6 x hx with h | ⟨c,h⟩ | h
     · exact .inl h
     · exact QAv c x h
     · exact .inr (.inr h)
end
end Go.Proofs.YtbnhggfiembejaaGreatDoor
end
section
namespace Go.Proofs.YtbnhggfiembejaaGreatDoor
open Go Go.RowKit X
set_option linter.unusedSimpArgs false
set_option linter.unusedVariables false
set_option linter.unusedSectionVars false
variable [Floor]
section
variable {wS w : World} {aa Jk ba KZ o p n oa ob jb ea eb bb oo M : Nat} {apart Qi : Key} {Qq QW : Option Nat} {ZO Km : List Nat} {Q7 Qd : UInt8 → T} {mt : Option Y3}
theorem QnN (ha : Wv wS (.node aa Jk apart Qq ZO Q7) oa) (hb : Wv wS (.node ba KZ Qi QW Km Qd) ob) (ho : o ≠ 0) (hp : 1 ≤ p ∧ p ≤ 5)
  (hq : apart.drop oa = Qi.drop ob) (hal : ZO = []) (hbl : Km ≠ []) (hm : Mt wS mt n) (hj : QZ wS jb (Ms p o mt) Zy)
  (hA : QZ wS ea [(T.node aa Jk apart Qq ZO Q7).v,.int .i64 oa] Qj) (hBe : QZ wS eb [(T.node ba KZ Qi QW Km Qd).v,.int .i64 ob] Qj)
  (hB : QZ wS bb [(T.node ba KZ Qi QW Km Qd).v,.int .i64 ob] Qj) (hO : QZ wS oo [(T.node aa Jk apart Qq ZO Q7).v,.int .i64 oa] Qj)
  {K : Value → World → Prop} (hK : ∀ t' n' w',UR wS w' p (.node aa Jk apart Qq ZO Q7) (.node ba KZ Qi QW Km Qd) oa ob t' mt n n' → K t'.v w') : QeY K jb ea eb bb oo wS:=by
 have hva:=Qb1 ha.tree
 have hvb:=Qb1 hb.tree
 have han : ∀ c,Q7 c = .nil:=Q3Y (ha.QR.1.1 hal)
 unfold QeY
 refine hj.JH rfl ?_
 refine hA.ld (v:=(T.node aa Jk apart Qq ZO Q7).v) rfl ?_
 refine hBe.ld (v:=(T.node ba KZ Qi QW Km Qd).v) rfl ?_
 refine (Qe6 (p:=p) ha.tree hb.tree hp).mono ?_
 rintro _ w1 ⟨rfl,he1⟩
 refine (hB.ext he1 fun h => h).ld (v:=(T.node ba KZ Qi QW Km Qd).v) rfl ?_
 refine (Cj (hb.tree.Q4 he1)).mono ?_
 rintro _ w2 ⟨rfl,rfl⟩
 have ha1:=ha.Q4 he1
 have hb1:=hb.Q4 he1
 have hm1:=hm.Q4 he1
 have hj1:=hj.ext he1 fun h => h
 have hB1:=hB.ext he1 fun h => h
 have hO1:=hO.ext he1 fun h => h
 have hz1:=he1.size
 generalize hV : Zx p (T.node aa Jk apart Qq ZO Q7).val (T.node ba KZ Qi QW Km Qd).val = V
 have hV : Zx p Qq QW = V:=hV
 have hVs : V.isSome = (Qq.isSome || QW.isSome):=by rw [← hV,XH]
 refine xj (fun vs w' => ∃ nv m,vs = [nv] ∧ LS w2 QW Km Qd (Qi.drop ob) o mt w' m nv V Qd ∧ (V = QW → nv = .pointer none ∧ m = n)) ?_ ?_
 · refine QnM (p:=p) (V:=V) hb1 ho hm1 hj1 hB1 (fun h => ?_) (by rw [← hV]; exact QhB hva hvb)
   rw [hVs] at h
   cases QW with
   | none => rfl
   | some => simp at h
 rintro vs g w3 ⟨nv,m,rfl,hL,-⟩
 obtain ⟨Dw,JD⟩:=hL.cn
 have Po:=hj1.ext JD (hm1.ne hj1 (by decide))
 have hB3:=hB1.ext JD (hm1.ne hB1 (by decide))
 have hO3:=hO1.ext JD (hm1.ne hO1 (by decide))
 refine hO3.JH rfl ?_
 refine (Gp (off:=oa) (ha1.YL hm1 JD).tree).mono ?_
 rintro _ w4 ⟨rfl,Zl⟩
 have hL4:=hL.Q4 Zl
 have hj4:=Po.ext Zl fun h => h
 have hB4:=hB3.ext Zl fun h => h
 refine Qr (by show (((Yx ZO (ptrs Q7) : Nat) : Int) == 1) = true; unfold Yx; rw [if_pos hal]; rfl) ?_
 refine hj4.JH rfl ?_
 refine hB4.JH rfl ?_
 refine (Qgx (p:=p) hb1 ho hm1 hL4 hb.QR.1 hb.QR.2).mono ?_
 rintro _ w5 ⟨t',n',rfl,h1,h2,h3,h4,h5,h6,-⟩
 refine hK t' n' _ ⟨h1,h2,(he1.mono fun _ _ h => h.elim).QI h3,fun x hx => ?_,h4,⟨?_,fun k => ?_⟩,fun h0 hmg => ?_⟩
 · rcases h6 x hx with h | ⟨c,h⟩ | h
   · exact .inr (.inl h)
   · exact .inr (.inl (.inr ⟨c,h⟩))
   · exact .inr (.inr (by omega))
 · rw [h5]
   exact Qan (XW (off:=ob) hb.fine) (fun h => by rw [hVs,h,Bool.or_true]) (fun c h => h) fun c => hb.fine.2 c
 · rw [h5]
   show (E.node (Qi.drop ob) V fun c => (Qd c).er).get k = Zx p ((E.node (apart.drop oa) Qq fun c => (Q7 c).er).get k) ((E.node (Qi.drop ob) QW fun c => (Qd c).er).get k)
   rw [hq,← hV]
   exact GZ (fun c r => by rw [han c]; rfl) k
 · exfalso
   subst h0
   obtain ⟨c,hc⟩:=Qs9 (kids:=Qd) (fun h => hbl (hb.QR.1.2 h))
   obtain ⟨k,v,hk⟩:=E.ZV.V8 (hb.fine.2 c) (fun e => by
    have h2:=Zd.1 hc
    have h3 : (Qd c).er.opt.isSome = (Qd c).ptr.isSome:=T.WQ _
    rw [show (Qd c).er = .nil from e] at h3
    have h2 : (Qd c).ptr.isSome = true:=h2
    rw [← h3] at h2; cases h2)
   have hk : (Qd c).er.get k = some v:=hk
   have hq' : Qi.drop ob = apart:=by rw [← hq]; rfl
   have:=hmg (apart ++ c :: k)
   have e : W9 ob (T.node ba KZ Qi QW Km Qd).er = E.node apart QW fun c => (Qd c).er:=by
    show E.node (Qi.drop ob) QW _ = _
    rw [hq']
   rw [e] at this
   have this : Zx p ((E.node apart Qq fun c => (Q7 c).er).get (apart ++ c :: k)) ((E.node apart QW fun c => (Qd c).er).get (apart ++ c :: k)) = (E.node apart Qq fun c => (Q7 c).er).get (apart ++ c :: k):=this
   rw [Z8,Z8,hk,han c] at this
   cases this
end
end Go.Proofs.YtbnhggfiembejaaGreatDoor
end
section
namespace Go.Proofs.YtbnhggfiembejaaGreatDoor
open Go Go.RowKit X
set_option linter.unusedSimpArgs false
set_option linter.unusedVariables false
set_option linter.unusedSectionVars false
variable [Floor]
def Qrb (K : Value → World → Prop) (j ea eb bb oo : Nat) (Zr : World) : Prop :=
 XJ (fun Uu =>
 XJ (fun Q5K =>
 Qo Zr ⟨ea,0,none⟩ 2 fun Z7 =>
 Q6 P Jo [Z7] Zr fun Zo Wy =>
 Ql Zo (Qo Wy ⟨eb,0,none⟩ 2 fun ZW =>
 Q6 P Jo [ZW] Wy fun ZE JQ =>
 YW ZE fun ZA =>
 Q5K [ZA] JQ) (Q5K [(.bool false)] Wy)) fun Qb0 QsM Kr =>
 Ql (Qb0.getD 0 undef) (Qo Kr.drew ⟨eb,0,none⟩ 2 fun Ku =>
 Qo Kr.drew ⟨ea,0,none⟩ 2 fun ZQ =>
 Yn P (storeVar Qj ⟨bb,0,none⟩ Ku) Kr.drew fun Kz =>
 Za Kz (.pointer (some ⟨ea,0,none⟩)) ZQ ∧ (Yn P (storeVar Qj ⟨oo,0,none⟩ ZQ) Kz fun Yv =>
 Uu [] Yv)) (Uu [] Kr)) fun U5 Q7G J7 => QeY K j ea eb bb oo J7
section
variable {w0 w : World} {aa Jk ba KZ o p n oa ob jb ea eb bb oo M : Nat} {apart Qi : Key} {Qq QW : Option Nat} {ZO Km : List Nat} {Q7 Qd : UInt8 → T} {mt : Option Y3}
theorem QnP (hI : OfS p o mt M) (ha : Wv w0 (.node aa Jk apart Qq ZO Q7) oa) (hb : Wv w0 (.node ba KZ Qi QW Km Qd) ob) (ho : o ≠ 0) (hp : 1 ≤ p ∧ p ≤ 5) (hM : ((T.node aa Jk apart Qq ZO Q7).er.long + 1 - oa) + ((T.node ba KZ Qi QW Km Qd).er.long + 1 - ob) ≤ M)
  (hq : apart.drop oa = Qi.drop ob) (hm : Mt w0 mt n) (hE : Ext No w0 w) (hj : QZ w jb (Ms p o mt) Zy)
  (hA : QZ w ea [(T.node aa Jk apart Qq ZO Q7).v,.int .i64 oa] Qj) (hBe : QZ w eb [(T.node ba KZ Qi QW Km Qd).v,.int .i64 ob] Qj)
  (hB : QZ w bb [(T.node aa Jk apart Qq ZO Q7).v,.int .i64 oa] Qj) (hO : QZ w oo [(T.node ba KZ Qi QW Km Qd).v,.int .i64 ob] Qj)
  (h1 : w0.heap.size ≤ bb) (h2 : w0.heap.size ≤ oo) (h3 : bb ≠ oo) (h4 : bb ≠ ea ∧ bb ≠ eb ∧ oo ≠ ea ∧ oo ≠ eb ∧ bb ≠ jb ∧ oo ≠ jb)
  {K : Value → World → Prop} (hK : ∀ t' n' w',UR w0 w' p (.node aa Jk apart Qq ZO Q7) (.node ba KZ Qi QW Km Qd) oa ob t' mt n n' → K t'.v w') : Qrb K jb ea eb bb oo w:=by
 obtain ⟨q1,q2,q3,q4,q5,q6⟩:=h4
 unfold Qrb
 have hkA : (((T.node aa Jk apart Qq ZO Q7).kind : Nat) : Int) == 1 ↔ ZO = []:=by
  constructor
  · intro h
    by_cases e : ZO = []
    · exact e
    · have:=Qbc (m:=ptrs Q7) e
      have h : ((Yx ZO (ptrs Q7) : Nat) : Int) = 1:=eq_of_beq h
      omega
  · intro e
    show (((Yx ZO (ptrs Q7) : Nat) : Int) == 1) = true
    unfold Yx; rw [if_pos e]; rfl
 have hkB : (((T.node ba KZ Qi QW Km Qd).kind : Nat) : Int) == 1 ↔ Km = []:=by
  constructor
  · intro h
    by_cases e : Km = []
    · exact e
    · have:=Qbc (m:=ptrs Qd) e
      have h : ((Yx Km (ptrs Qd) : Nat) : Int) = 1:=eq_of_beq h
      omega
  · intro e
    show (((Yx Km (ptrs Qd) : Nat) : Int) == 1) = true
    unfold Yx; rw [if_pos e]; rfl
 refine xj (fun vs w' => Ext No w0 w' ∧ QZ w' jb (Ms p o mt) Zy ∧ QZ w' ea [(T.node aa Jk apart Qq ZO Q7).v,.int .i64 oa] Qj ∧ QZ w' eb [(T.node ba KZ Qi QW Km Qd).v,.int .i64 ob] Qj ∧
   ((¬ (ZO = [] ∧ Km ≠ []) ∧ QZ w' bb [(T.node aa Jk apart Qq ZO Q7).v,.int .i64 oa] Qj ∧ QZ w' oo [(T.node ba KZ Qi QW Km Qd).v,.int .i64 ob] Qj) ∨
    ((ZO = [] ∧ Km ≠ []) ∧ QZ w' bb [(T.node ba KZ Qi QW Km Qd).v,.int .i64 ob] Qj ∧ QZ w' oo [(T.node aa Jk apart Qq ZO Q7).v,.int .i64 oa] Qj))) ?_ ?_
 · refine xj (fun vs w' => ∃ t : Bool,vs = [.bool t] ∧ (t = true ↔ (ZO = [] ∧ Km ≠ [])) ∧ Ext No w w') ?_ ?_
   · refine hA.JH rfl ?_
     refine (Gp (off:=oa) (ha.tree.Q4 hE)).mono ?_
     rintro _ w1 ⟨rfl,he1⟩
     by_cases ea' : ZO = []
     · refine Qr (hkA.2 ea') ?_
       refine (hBe.ext he1 fun h => h).JH rfl ?_
       refine (Gp (off:=ob) ((hb.tree.Q4 hE).Q4 he1)).mono ?_
       rintro _ w2 ⟨rfl,he2⟩
       refine ⟨_,rfl,?_,he1.Q0 he2⟩
       by_cases eb' : Km = []
       · rw [hkB.2 eb']; simp [eb']
       · have : ((((T.node ba KZ Qi QW Km Qd).kind : Nat) : Int) == 1) = false:=by
          cases h : ((((T.node ba KZ Qi QW Km Qd).kind : Nat) : Int) == 1) with
          | true => exact absurd (hkB.1 h) eb'
          | false => rfl
         rw [this]; simp [ea',eb']
     · refine Qp (by
        cases h : ((((T.node aa Jk apart Qq ZO Q7).kind : Nat) : Int) == 1) with
        | true => exact absurd (hkA.1 h) ea'
        | false => rfl) ?_
       exact ⟨false,rfl,by simp [ea'],he1⟩
   · rintro vs g w1 ⟨t,rfl,ht,he1⟩
     have hE1:=hE.Q0 he1
     have hj1:=hj.ext he1 fun h => h
     have hA1:=hA.ext he1 fun h => h
     have Qju:=hBe.ext he1 fun h => h
     have hB1:=hB.ext he1 fun h => h
     have hO1:=hO.ext he1 fun h => h
     cases t with
     | false =>
       refine Qp rfl ?_
       exact ⟨hE1,hj1,hA1,Qju,.inl ⟨(fun h => by have:=ht.2 h; cases this),hB1,hO1⟩⟩
     | true =>
       refine Qr rfl ?_
       have hd:=Ext.drew (Ext.refl No w1)
       refine Qju.drew.JH rfl ?_
       refine hA1.drew.JH rfl ?_
       refine KD (a:=(T.node ba KZ Qi QW Km Qd).v) (b:=.int .i64 ob) hB1.drew (by kernel_rfl) rfl rfl fun w2 hB2 hz2 he2 => ?_
       have hA2:=hA1.drew.ext he2 (by show ¬ ea = bb; omega)
       refine ⟨X5 hA2,?_⟩
       refine KD (a:=(T.node aa Jk apart Qq ZO Q7).v) (b:=.int .i64 oa) (hO1.drew.ext he2 (by show ¬ oo = bb; omega)) (by kernel_rfl) rfl rfl fun w3 hO3 hz3 QE => ?_
       refine ⟨((hE1.Q0 hd).Z0 he2 h1).Z0 QE h2,(hj1.drew.ext he2 (by show ¬ jb = bb; omega)).ext QE (by show ¬ jb = oo; omega),hA2.ext QE (by show ¬ ea = oo; omega),(Qju.drew.ext he2 (by show ¬ eb = bb; omega)).ext QE (by show ¬ eb = oo; omega),.inr ⟨ht.1 rfl,hB2.ext QE (by show ¬ bb = oo; omega),hO3⟩⟩
 · rintro vs g w1 ⟨hE1,hj1,hA1,Qju,⟨hns,hB1,hO1⟩ | ⟨⟨e1,e2⟩,hB1,hO1⟩⟩
   · exact QnO hI (ha.Q4 hE1) (hb.Q4 hE1) ho hp hM hq (fun h => by
      by_cases e : Km = []
      · exact e
      · exact absurd ⟨h,e⟩ hns) (hm.Q4 hE1) hj1 hA1 Qju hB1 hO1 fun t' n' w' hU => hK t' n' w' (hU.from' hE1)
   · exact QnN (ha.Q4 hE1) (hb.Q4 hE1) ho hp hq e1 e2 (hm.Q4 hE1) hj1 hA1 Qju hB1 hO1 fun t' n' w' hU => hK t' n' w' (hU.from' hE1)
end
end Go.Proofs.YtbnhggfiembejaaGreatDoor
end
section
namespace Go.Proofs.YtbnhggfiembejaaGreatDoor
open Go Go.RowKit X
set_option linter.unusedSimpArgs false
set_option linter.unusedVariables false
set_option linter.unusedSectionVars false
variable [Floor]
section
variable {w : World} {aa Jk ba KZ o p n oa ob M : Nat} {apart Qi : Key} {Qq QW : Option Nat} {ZO Km : List Nat} {Q7 Qd : UInt8 → T} {mt : Option Y3}
set_option maxHeartbeats 1000000 in
theorem QnQ (hI : OfS p o mt M) (ha : Wv w (.node aa Jk apart Qq ZO Q7) oa) (hb : Wv w (.node ba KZ Qi QW Km Qd) ob) (ho : o ≠ 0) (hp : 1 ≤ p ∧ p ≤ 5) (hM : ((T.node aa Jk apart Qq ZO Q7).er.long + 1 - oa) + ((T.node ba KZ Qi QW Km Qd).er.long + 1 - ob) ≤ M)
  (hq : apart.drop oa = Qi.drop ob) (hm : Mt w mt n) :
  Q6 P UJ [Mr p o mt,AA (.node aa Jk apart Qq ZO Q7) oa,AA (.node ba KZ Qi QW Km Qd) ob] w fun r w' => ∃ t' n',r = t'.v ∧ UR w w' p (.node aa Jk apart Qq ZO Q7) (.node ba KZ Qi QW Km Qd) oa ob t' mt n n':=by
 refine SN ?_
 refine Qz fun jb w1 hjb hj hz1 he1 => ?_
 have hj : QZ w1 jb (Ms p o mt) Zy:=hj
 refine Qz fun ea w2 hea hA hz2 he2 => ?_
 have hA : QZ w2 ea [(T.node aa Jk apart Qq ZO Q7).v,.int .i64 oa] Qj:=hA
 refine Qz fun eb w3 heb hB hz3 QE => ?_
 have hB : QZ w3 eb [(T.node ba KZ Qi QW Km Qd).v,.int .i64 ob] Qj:=hB
 have Po:=((hj.ext he2 fun h => h).ext QE fun h => h).drew
 have hA3:=(hA.ext QE fun h => h).drew
 have hB3:=hB.drew
 have JD:=((he1.Q0 he2).Q0 QE).Q0 (Ext.drew (Ext.refl No w3))
 refine hA3.JH rfl ?_
 refine hB3.JH rfl ?_
 have hs3 : w3.drew.heap.size = w3.heap.size:=rfl
 refine ⟨?_,?_⟩
 · refine Qz fun bb w4 hbb hb4 Ro Zl => ⟨X5 (hB3.ext Zl fun h => h),X5 (hA3.ext Zl fun h => h),?_⟩
   refine Qz fun oo w5 hoo ho5 hz5 ZR => ⟨X5 ((hB3.ext Zl fun h => h).ext ZR fun h => h),X5 ((hA3.ext Zl fun h => h).ext ZR fun h => h),?_⟩
   refine KD (a:=(T.node aa Jk apart Qq ZO Q7).v) (b:=.int .i64 oa) (hb4.ext ZR fun h => h) (by kernel_rfl) rfl rfl fun w6 hb6 hz6 Ke => ⟨X5 (((hB3.ext Zl fun h => h).ext ZR fun h => h).ext Ke (by show ¬ eb = bb; omega)),?_⟩
   refine KD (a:=(T.node ba KZ Qi QW Km Qd).v) (b:=.int .i64 ob) (ho5.ext Ke (by show ¬ oo = bb; omega)) (by kernel_rfl) rfl rfl fun w7 ho7 hz7 Yy => ?_
   have WX:=(JD.Q0 Zl).Q0 ZR
   have hs:=JD.size
   show Qrb _ jb ea eb bb oo w7
   exact QnP hI ha hb ho hp hM hq hm ((WX.Z0 Ke (by omega)).Z0 Yy (by omega)) ((((Po.ext Zl fun h => h).ext ZR fun h => h).ext Ke (by show ¬ jb = bb; omega)).ext Yy (by show ¬ jb = oo; omega))
    ((((hA3.ext Zl fun h => h).ext ZR fun h => h).ext Ke (by show ¬ ea = bb; omega)).ext Yy (by show ¬ ea = oo; omega)) ((((hB3.ext Zl fun h => h).ext ZR fun h => h).ext Ke (by show ¬ eb = bb; omega)).ext Yy (by show ¬ eb = oo; omega))
    (hb6.ext Yy (by show ¬ bb = oo; omega)) ho7 (by omega) (by omega) (by omega) ⟨by omega,by omega,by omega,by omega,by omega,by omega⟩ fun t' n' w' hU => ⟨t',n',rfl,hU⟩
 · refine Qz fun oo w4 hoo ho4 Ro Zl => ⟨X5 (hB3.ext Zl fun h => h),X5 (hA3.ext Zl fun h => h),?_⟩
   refine Qz fun bb w5 hbb hb5 hz5 ZR => ⟨X5 ((hB3.ext Zl fun h => h).ext ZR fun h => h),X5 ((hA3.ext Zl fun h => h).ext ZR fun h => h),?_⟩
   refine KD (a:=(T.node aa Jk apart Qq ZO Q7).v) (b:=.int .i64 oa) hb5 (by kernel_rfl) rfl rfl fun w6 hb6 hz6 Ke => ⟨X5 (((hB3.ext Zl fun h => h).ext ZR fun h => h).ext Ke (by show ¬ eb = bb; omega)),?_⟩
   refine KD (a:=(T.node ba KZ Qi QW Km Qd).v) (b:=.int .i64 ob) ((ho4.ext ZR fun h => h).ext Ke (by show ¬ oo = bb; omega)) (by kernel_rfl) rfl rfl fun w7 ho7 hz7 Yy => ?_
   have WX:=(JD.Q0 Zl).Q0 ZR
   have hs:=JD.size
   show Qrb _ jb ea eb bb oo w7
   exact QnP hI ha hb ho hp hM hq hm ((WX.Z0 Ke (by omega)).Z0 Yy (by omega)) ((((Po.ext Zl fun h => h).ext ZR fun h => h).ext Ke (by show ¬ jb = bb; omega)).ext Yy (by show ¬ jb = oo; omega))
    ((((hA3.ext Zl fun h => h).ext ZR fun h => h).ext Ke (by show ¬ ea = bb; omega)).ext Yy (by show ¬ ea = oo; omega)) ((((hB3.ext Zl fun h => h).ext ZR fun h => h).ext Ke (by show ¬ eb = bb; omega)).ext Yy (by show ¬ eb = oo; omega))
    (hb6.ext Yy (by show ¬ bb = oo; omega)) ho7 (by omega) (by omega) (by omega) ⟨by omega,by omega,by omega,by omega,by omega,by omega⟩ fun t' n' w' hU => ⟨t',n',rfl,hU⟩
end
end Go.Proofs.YtbnhggfiembejaaGreatDoor
end
