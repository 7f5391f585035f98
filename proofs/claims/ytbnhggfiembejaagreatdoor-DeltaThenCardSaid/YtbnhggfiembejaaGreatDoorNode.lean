import Derived.Test.YtbnhggfiembejaaGreatDoorRow
section
namespace Go.Proofs.YtbnhggfiembejaaGreatDoor
open Go Go.RowKit X
set_option linter.unusedSimpArgs false
set_option linter.unusedVariables false
set_option linter.unusedSectionVars false
variable [Floor]
structure NA (w : World) (a ow : Nat) (part : List UInt8) (val : Option Nat) (ks : List Nat) (m : UInt8 → Option Addr) : Prop where
 blk : ∃ pv,QZ w a [.int .u64 ow,pv,.int .u64 (val.getD 0 : Nat),.bool val.isSome,Xa ks] JV ∧ Bs w pv part
 kd : Ks w ks m
 short : part.length ≤ 65535
 v64 : ∀ v,val = some v → v < 18446744073709551616
 new : Floor.n ≤ a ∧ ∀ b ∈ ks,Floor.n ≤ b
theorem NA.ext {X : Nat → Prop} {w w' : World} {a ow : Nat} {part : List UInt8} {val : Option Nat} {ks : List Nat} {m : UInt8 → Option Addr} (h : NA w a ow part val ks m) (e : Ext X w w') (hb : NB w X) (ha : ¬ X a) (hk : ∀ b ∈ ks,¬ X b) : NA w' a ow part val ks m:=by
 obtain ⟨pv,h1,h2⟩:=h.blk
 exact ⟨⟨pv,h1.ext e ha,h2.ext e hb⟩,h.kd.ext e hk,h.short,h.v64,h.new⟩
theorem NA.Q4 {w w' : World} {a ow : Nat} {part : List UInt8} {val : Option Nat} {ks : List Nat} {m : UInt8 → Option Addr} (h : NA w a ow part val ks m) (e : Ext No w w') : NA w' a ow part val ks m:=h.ext e (NB.no w) (fun h => h) fun _ _ h => h
theorem KT.ne {T : TypeId} (h : KT T) : T ≠ Qm ∧ T ≠ JV ∧ NoM T:=by
 rcases h with rfl | rfl | rfl | rfl | rfl <;> decide
theorem NA.YL {w w' : World} {a ow : Nat} {part : List UInt8} {val : Option Nat} {ks : List Nat} {m : UInt8 → Option Addr} {mt : Option Y3} {k : Nat} (h : NA w a ow part val ks m) (hm : Mt w mt k) (e : Ext (MX mt) w w') : NA w' a ow part val ks m:=by
 obtain ⟨pv,h1,h2⟩:=h.blk
 refine h.ext e hm.nb (hm.ne h1 (by decide)) fun b hb => ?_
 obtain ⟨cs,T,h3,h4⟩:=h.kd.ty b hb
 exact hm.ne h3 h4.ne.2.2
theorem Bs.R9 {w : World} {v : Value} {bs : List UInt8} (h : Bs w v bs) : v.oneCell' = true:=by
 obtain ⟨a,cap,rfl⟩:=h.slice
 rfl
theorem Qdp (ks : List Nat) : (Xa ks).oneCell' = true:=by cases ks <;> rfl
section
variable {w : World} {a ow : Nat} {part : List UInt8} {val : Option Nat} {ks : List Nat} {m : UInt8 → Option Addr}
theorem Q6o (n : Nat) : (Kc (QJ (.int .u8 0)) n).length = n:=by rw [Ik]; simp [QJ]
theorem QqT (h : NA w a ow part val ks m) : Q6 P QD [rp a] w fun v w' => Bs w' v part ∧ Ext No w w':=by
 obtain ⟨pv,h1,h2⟩:=h.blk
 have hs:=h.short
 refine Ef ?_
 refine Qp rfl ?_
 refine h1.ld (v:=pv) rfl ?_
 refine h2.len ?_
 refine Q7b Uq rfl rfl (Nat.le_refl _) (by omega) (by omega) fun b w1 hb hz hblk he => ?_
 refine (h1.ext he fun h => h).ld (v:=pv) rfl ?_
 refine Q7S Uq hblk (h2.Q4 he) (by rw [Nat.min_self,Q6o]; omega) h2.one fun w2 hb2 hz2 he2 => ?_
 rw [Nat.min_self,List.take_of_length_le (l:=part.map bv) (by simp)] at hb2
 have e : (Kc (QJ (.int .u8 0)) part.length).drop (0 + part.length) = []:=List.drop_eq_nil_of_le (by rw [Q6o]; omega)
 rw [e] at hb2
 have hb3 : QZ w2 b (part.map bv) Qm:=by simpa using hb2
 refine ⟨?_,he.Z0 he2 (by omega)⟩
 have:=hb3.sl (o:=0) (n:=part.length) (cap:=part.length) (by simp) (Nat.le_refl _)
 rw [List.drop_zero,List.take_of_length_le (by simp)] at this
 exact Bs.of this
def QkP (val : Option Nat) : Value:=.tuple #[.int .u64 (val.getD 0 : Nat),.bool val.isSome]
theorem QvI (h : NA w a ow part val ks m) : Q6 P Zc [rp a] w fun v w' => v = QkP val ∧ w' = w:=by
 obtain ⟨pv,h1,h2⟩:=h.blk
 refine Pt ?_
 refine xjd ?_
 refine Qp rfl ?_
 refine h1.ld (v:=.bool val.isSome) rfl ?_
 intro g
 cases val with
 | none => exact ⟨rfl,rfl⟩
 | some x =>
   refine Qp rfl ?_
   exact h1.ld (v:=.int .u64 x) rfl ⟨rfl,rfl⟩
theorem QaB (h : NA w a ow part val ks m) : Q6 P WL [rp a] w fun v w' => v = .bool ks.isEmpty ∧ w' = w:=by
 obtain ⟨pv,h1,h2⟩:=h.blk
 refine Q1K ?_
 refine h1.ld (v:=Xa ks) rfl ?_
 cases ks <;> exact ⟨rfl,rfl⟩
def Yx (ks : List Nat) (m : UInt8 → Option Addr) : Nat:=if ks = [] then 1 else Kl (cnt m)
theorem QqV (h : NA w a ow part val ks m) : Q6 P J4 [rp a] w fun v w' => v = .int .i64 (Yx ks m) ∧ w' = w:=by
 have h0:=h
 obtain ⟨pv,h1,h2⟩:=h.blk
 refine Ny ?_
 refine Qp rfl ?_
 refine (QaB h0).mono ?_
 rintro v w' ⟨rfl,rfl⟩
 by_cases e : ks = []
 · subst e
   refine Qr rfl ⟨rfl,rfl⟩
 · have hemp : ks.isEmpty = false:=by cases ks with | nil => exact absurd rfl e | cons => rfl
   rw [hemp]
   refine Qp rfl ?_
   refine h1.ld (v:=Xa ks) rfl ?_
   refine (Qok h0.kd e).mono ?_
   rintro v w1 ⟨rfl,rfl⟩
   exact ⟨by unfold Yx; rw [if_neg e],rfl⟩
theorem Qoh (h : NA w a ow part val ks m) : Q6 P Ye [rp a] w fun v w' => v = .int .i64 (cnt m) ∧ w' = w:=by
 have h0:=h
 obtain ⟨pv,h1,h2⟩:=h.blk
 refine Pv ?_
 refine Qp rfl ?_
 refine h1.ld (v:=Xa ks) rfl ?_
 refine (Qi7 h0.kd).mono ?_
 rintro v w' ⟨rfl,rfl⟩
 exact ⟨rfl,rfl⟩
theorem Qog (h : NA w a ow part val ks m) : Q6 P Vh [rp a] w fun v w' => v = .int .i64 (cnt m + (if val.isSome then 1 else 0) : Nat) ∧ w' = w:=by
 have h0:=h
 obtain ⟨pv,h1,h2⟩:=h.blk
 have hle:=BR m
 refine Ri ?_
 refine xjd ?_
 refine Qr rfl ?_
 refine h1.ld (v:=.bool val.isSome) rfl ?_
 intro g
 cases val with
 | none =>
   refine Qp rfl ?_
   refine (Qoh h0).mono ?_
   rintro v w' ⟨rfl,rfl⟩
   exact ⟨rfl,rfl⟩
 | some x =>
   refine Qr rfl ?_
   refine h1.ld (v:=Xa ks) rfl ?_
   refine (Qi7 h0.kd).mono ?_
   rintro v w' ⟨rfl,rfl⟩
   exact xi (r:=((cnt m + 1 : Nat) : Int)) (by rw [QQ (by omega)]; omega) ⟨rfl,rfl⟩
theorem QgJ (h : NA w a ow part val ks m) {b : UInt8} : Q6 P Zm [rp a,bv b] w fun v w' => v = .pointer (m b) ∧ Ext No w w':=by
 have h0:=h
 obtain ⟨pv,h1,h2⟩:=h.blk
 refine Pw ?_
 refine Qp rfl ?_
 refine h1.ld (v:=Xa ks) rfl ?_
 refine (QqZ h0.kd).mono ?_
 rintro v w' ⟨rfl,he⟩
 exact ⟨rfl,he⟩
def Vx (m : UInt8 → Option Addr) (i : Nat) : Value :=
 match Wd m i with
 | some c => .tuple #[bv c,.pointer (m c)]
 | none => .tuple #[.int .u8 0,.pointer none]
theorem QqU (h : NA w a ow part val ks m) {i : Nat} (hi : i ≤ 256) : Q6 P QP [rp a,.int .i64 i] w fun v w' => v = Vx m i ∧ Ext No w w':=by
 have h0:=h
 obtain ⟨pv,h1,h2⟩:=h.blk
 refine Nw ?_
 refine Qp rfl ?_
 refine h1.ld (v:=Xa ks) rfl ?_
 refine (Qoj h0.kd hi).mono ?_
 rintro v w' ⟨rfl,he⟩
 unfold FE Vx
 cases Wd m i <;> exact ⟨rfl,he⟩
theorem QbT (h : NA w a ow part val ks m) {o : Nat} : Q6 P Vr [rp a,.int .u64 o] w fun v w' => v = .int .i64 (if o ≠ 0 ∧ o = ow then 0 else 11) ∧ w' = w:=by
 obtain ⟨pv,h1,h2⟩:=h.blk
 refine Q61 ?_
 refine Qp rfl ?_
 refine xjd ?_
 refine Vu (fun he => ?_) fun he => ?_
 · intro g
   refine Qr rfl ⟨?_,rfl⟩
   rw [if_neg (by omega)]
 · refine h1.ld (v:=.int .u64 ow) rfl ?_
   intro g
   refine Q5L (fun hn => ⟨?_,rfl⟩) fun hn => ⟨?_,rfl⟩
   · rw [if_neg (by omega)]
   · rw [if_pos (by omega)]
theorem SA (h : NA w a ow part val ks m) {o : Nat} (ho : o ≠ 0) (he : o = ow) (hne : ks ≠ []) : Q6 P Vz [rp a,.int .u64 o] w fun v w' => v = .int .i64 0 ∧ w' = w:=by
 refine Q2X ?_
 refine (QbT h).mono ?_
 rintro v w' ⟨rfl,rfl⟩
 rw [if_pos ⟨ho,he⟩]
 refine xjd ?_
 refine Qr rfl ?_
 refine (QaB h).mono ?_
 rintro v w' ⟨rfl,rfl⟩
 have hemp : ks.isEmpty = false:=by cases ks with | nil => exact absurd rfl hne | cons => rfl
 rw [hemp]
 intro g
 exact Qp rfl ⟨rfl,rfl⟩
theorem NA.st (h : NA w a ow part val ks m) {ow' : Nat} {part' : List UInt8} {val' : Option Nat} {ks' : List Nat} {m' : UInt8 → Option Addr} {pv pv' : Value} {w1 : World} (hb : QZ w a [.int .u64 ow,pv,.int .u64 (val.getD 0 : Nat),.bool val.isSome,Xa ks] JV)
  (h1 : QZ w1 a [.int .u64 ow',pv',.int .u64 (val'.getD 0 : Nat),.bool val'.isSome,Xa ks'] JV) (he : Ext (· = a) w w1) (hp : Bs w pv' part') (hk : Ks w ks' m') (hs : part'.length ≤ 65535) (hv : ∀ v,val' = some v → v < 18446744073709551616) (hn : ∀ b ∈ ks',Floor.n ≤ b) : NA w1 a ow' part' val' ks' m':=by
 refine ⟨⟨pv',h1,hp.ext he fun b e _ => ?_⟩,hk.ext he fun b hb' e => ?_,hs,hv,h.new.1,hn⟩
 · have e : b = a:=e
   subst e
   exact ⟨h.new.1,_,_,hb,by decide⟩
 · have e : b = a:=e
   subst e
   obtain ⟨cs,T,h3,h4⟩:=hk.ty b hb'
   exact h4.ne.2.1 (h3.inj hb).2
theorem Q1B (h : NA w a ow part val ks m) {o : Nat} (ho : o ≠ 0) (he : o = ow) {v : Value} {bs : List UInt8} (hv : Bs w v bs) (hs : bs.length ≤ 65535) : Q6 P ZH [rp a,.int .u64 o,v] w fun v w' => NA w' a ow bs val ks m ∧ Ext (· = a) w w':=by
 refine Q0n ?_
 refine (QbT h).mono ?_
 rintro r w' ⟨rfl,rfl⟩
 rw [if_pos ⟨ho,he⟩]
 refine xjd ?_
 refine Qr rfl ?_
 refine (QbZ hv (by omega)).mono ?_
 rintro pv' w1 ⟨hb1,he1⟩
 have h':=h.Q4 he1
 obtain ⟨pv,h1,h2⟩:=h'.blk
 refine h1.st (o:=1) (by simp) hb1.R9 fun w2 hb2 hz2 he2 => ?_
 intro g
 exact ⟨h'.st h1 hb2 he2 hb1 h'.kd hs h'.v64 h'.new.2,(he1.mono fun _ _ h => h.elim).QI he2⟩
theorem QaA (h : NA w a ow part val ks m) {o : Nat} (ho : o ≠ 0) (he : o = ow) {x : Nat} (hx : x < 18446744073709551616) : Q6 P Zu [rp a,.int .u64 o,.int .u64 x] w fun v w' => NA w' a ow part (some x) ks m ∧ Ext (· = a) w w':=by
 refine Q1L ?_
 refine (QbT h).mono ?_
 rintro r w' ⟨rfl,rfl⟩
 rw [if_pos ⟨ho,he⟩]
 refine xjd ?_
 refine Qr rfl ?_
 obtain ⟨pv,h1,h2⟩:=h.blk
 refine h1.st (o:=2) (by simp) rfl fun w2 hb2 hz2 he2 => ?_
 refine hb2.st (o:=3) (by simp) rfl fun w3 hb3 hz3 QE => ?_
 intro g
 exact ⟨h.st (val':=some x) h1 hb3 (he2.QI QE) h2 h.kd h.short (fun v hv => by cases hv; exact hx) h.new.2,he2.QI QE⟩
theorem QgK (h : NA w a ow part val ks m) {o : Nat} (ho : o ≠ 0) (he : o = ow) (hne : ks ≠ []) (hv : val.isSome) : Q6 P VU [rp a,.int .u64 o] w fun v w' => NA w' a ow part none ks m ∧ Ext (· = a) w w':=by
 refine Q0o ?_
 refine (SA h ho he hne).mono ?_
 rintro r w' ⟨rfl,rfl⟩
 refine Qp rfl ?_
 obtain ⟨pv,h1,h2⟩:=h.blk
 refine h1.ld (v:=.bool val.isSome) rfl ?_
 refine Qp (by rw [hv]; rfl) ?_
 refine h1.st (o:=2) (by simp) rfl fun w2 hb2 hz2 he2 => ?_
 refine hb2.st (o:=3) (by simp) rfl fun w3 hb3 hz3 QE => ?_
 exact ⟨h.st (val':=none) h1 hb3 (he2.QI QE) h2 h.kd h.short (fun v hv => by cases hv) h.new.2,he2.QI QE⟩
def NX (a : Nat) (ks : List Nat) : Nat → Prop:=fun b => b = a ∨ b ∈ ks
theorem NA.nb (h : NA w a ow part val ks m) : NB w (NX a ks):=fun b hb _ => by
 obtain ⟨pv,h1,h2⟩:=h.blk
 rcases hb with rfl | hb
 · exact ⟨h.new.1,_,_,h1,by decide⟩
 · obtain ⟨cs,T,h3,h4⟩:=h.kd.ty b hb
   exact ⟨h.new.2 b hb,cs,T,h3,h4.ne.1⟩
theorem NA.lt (h : NA w a ow part val ks m) {b : Nat} (hb : NX a ks b) : b < w.heap.size:=by
 obtain ⟨pv,h1,h2⟩:=h.blk
 rcases hb with rfl | hb
 · exact h1.lt
 · exact h.kd.lt hb
theorem NA.Qs7 (h : NA w a ow part val ks m) : a ∉ ks:=fun hb => by
 obtain ⟨pv,h1,h2⟩:=h.blk
 obtain ⟨cs,T,h3,h4⟩:=h.kd.ty a hb
 exact h4.ne.2.1 (h3.inj h1).2
theorem Q4a (h : NA w a ow part val ks m) {o : Nat} (ho : o ≠ 0) (he : o = ow) (hne : ks ≠ []) {b : UInt8} {x : Nat} : Q6 P QL [rp a,.int .u64 o,bv b,rp x] w fun v w' =>
  ∃ ks',NA w' a ow part val ks' (upd m b (some ⟨x,0,none⟩)) ∧ ks' ≠ [] ∧ Ext (· ∈ ks) w w' ∧ Sub ks ks' w.heap.size:=by
 refine Q1M ?_
 refine (SA h ho he hne).mono ?_
 rintro r w' ⟨rfl,rfl⟩
 refine Qp rfl ?_
 refine Qp rfl ?_
 obtain ⟨pv,h1,h2⟩:=h.blk
 refine h1.ld (v:=Xa ks) rfl ?_
 refine (QqX h.kd hne).mono ?_
 rintro v w1 ⟨rfl,ks',hk',hne',hp',he',hs'⟩
 have hn:=h.Qs7
 refine ⟨ks',⟨⟨pv,by rw [hp']; exact h1.ext he' hn,h2.ext he' fun b hb _ => ?_⟩,hk',h.short,h.v64,h.new.1,fun b hb => ?_⟩,hne',he',hs'⟩
 · obtain ⟨cs,T,h3,h4⟩:=h.kd.ty b hb
   exact ⟨h.new.2 b hb,cs,T,h3,h4.ne.1⟩
 · have:=h.lt (.inl rfl)
   have:=h.new.1
   exact (hs' b hb).elim (h.new.2 b) fun h' => by omega
theorem QgL (h : NA w a ow part val ks m) {o : Nat} (ho : o ≠ 0) (he : o = ow) (hne : ks ≠ []) {b : UInt8} (hb : (m b).isSome) : Q6 P VV [rp a,.int .u64 o,bv b] w fun v w' =>
  ∃ ks',NA w' a ow part val ks' (upd m b none) ∧ ks' ≠ [] ∧ Ext (· ∈ ks) w w' ∧ Sub ks ks' w.heap.size:=by
 refine Q0p ?_
 refine (SA h ho he hne).mono ?_
 rintro r w' ⟨rfl,rfl⟩
 refine Qp rfl ?_
 obtain ⟨pv,h1,h2⟩:=h.blk
 refine h1.ld (v:=Xa ks) rfl ?_
 refine (Qol h.kd hne hb).mono ?_
 rintro v w1 ⟨rfl,ks',hk',hne',hp',he',hs'⟩
 have hn:=h.Qs7
 refine ⟨ks',⟨⟨pv,by rw [hp']; exact h1.ext he' hn,h2.ext he' fun b hb _ => ?_⟩,hk',h.short,h.v64,h.new.1,fun b hb => ?_⟩,hne',he',hs'⟩
 · obtain ⟨cs,T,h3,h4⟩:=h.kd.ty b hb
   exact ⟨h.new.2 b hb,cs,T,h3,h4.ne.1⟩
 · have:=h.lt (.inl rfl)
   have:=h.new.1
   exact (hs' b hb).elim (h.new.2 b) fun h' => by omega
theorem QbU {mt : Option Y3} {k : Nat} (hm : Mt w mt k) {v : Value} {bs : List UInt8} (hv : Bs w v bs) (hs : bs.length ≤ 65535) {x : Nat} (hx : x < 18446744073709551616) : Q6 P XN [mv mt,.int .u64 ow,v,.int .u64 x] w fun v w' =>
  ∃ a,v = rp a ∧ NA w' a ow bs (some x) [] (fun _ => none) ∧ w.heap.size ≤ a ∧ Mt w' mt (k + 1) ∧ Ext (MX mt) w w':=by
 refine QeO ?_
 refine (QgM hm).mono ?_
 rintro r w1 ⟨hm1,he1⟩
 refine (QbZ (hv.mt he1 hm) (by omega)).mono ?_
 rintro pv w2 ⟨hb2,he2⟩
 obtain ⟨pa,pc,rfl⟩:=hb2.slice
 refine Qz fun b w3 hb hblk hz QE => ?_
 have s1:=he1.size
 have s2:=he2.size
 refine ⟨b,rfl,⟨⟨_,hblk,hb2.Q4 QE⟩,Ks.nil _,hs,fun v hv => by cases hv; exact hx,by have:=hm.fl; omega,by simp⟩,by omega,(hm1.Q4 he2).Q4 QE,(he1.Q0 he2).Q0 QE⟩
theorem Q2D {mt : Option Y3} {k : Nat} (hm : Mt w mt k) {v : Value} {bs : List UInt8} (hv : Bs w v bs) (hs : bs.length ≤ 65535) : Q6 P VA [mv mt,.int .u64 ow,v] w fun v w' =>
  ∃ a ks,v = rp a ∧ NA w' a ow bs none ks (fun _ => none) ∧ ks ≠ [] ∧ (∀ b,NX a ks b → w.heap.size ≤ b) ∧ Mt w' mt (k + 1) ∧ Ext (MX mt) w w':=by
 refine Qcc ?_
 refine (QgM hm).mono ?_
 rintro r w1 ⟨hm1,he1⟩
 refine (QbZ (hv.mt he1 hm) (by omega)).mono ?_
 rintro pv w2 ⟨hb2,he2⟩
 refine QqY.mono ?_
 rintro kv w3 ⟨ks,rfl,hne,hk,QE,hs3⟩
 obtain ⟨pa,pc,rfl⟩:=hb2.slice
 obtain ⟨kb,hkb⟩:=QpR hne
 rw [hkb]
 refine Qz fun b w4 hb hblk hz Zl => ?_
 have s1:=he1.size
 have s2:=he2.size
 have s3:=QE.size
 refine ⟨b,ks,rfl,⟨⟨_,by rw [hkb]; exact hblk,(hb2.Q4 QE).Q4 Zl⟩,hk.Q4 Zl,hs,fun v hv => (by cases hv),(by have:=hm.fl; omega),fun c hc => (hs3 c hc).elim (fun h => by cases h) fun h => (by have:=hm.fl; omega)⟩,hne,fun c hc => ?_,((hm1.Q4 he2).Q4 QE).Q4 Zl,((he1.Q0 he2).Q0 QE).Q0 Zl⟩
 rcases hc with rfl | hc
 · omega
 · rcases hs3 c hc with h | h
   · cases h
   · omega
set_option maxRecDepth 100000 in
theorem QgR (h : NA w a ow part val ks m) {mt : Option Y3} {k o : Nat} (hm : Mt w mt k) : Q6 P Wi [rp a,mv mt,.int .u64 o] w fun v w' =>
  ∃ a' ks',v = rp a' ∧ NA w' a' o part val ks' m ∧ (ks' = [] ↔ ks = []) ∧ (∀ b,NX a' ks' b → w.heap.size ≤ b) ∧ Mt w' mt (k + 1) ∧ Ext (MX mt) w w':=by
 refine Q4o ?_
 refine Qp rfl ?_
 refine (QgM hm).mono ?_
 rintro r w1 ⟨hm1,he1⟩
 have h1:=h.YL hm he1
 obtain ⟨pv,hb1,hp1⟩:=h1.blk
 refine hb1.JH rfl ?_
 refine Qz fun b w2 hb hblk hz he2 => ?_
 refine JW hblk (by kernel_rfl) (by simp) ?_ fun w3 hb3 hz3 QE => ?_
 · intro v hv
   simp only [List.mem_cons,List.mem_nil_iff,or_false] at hv
   rcases hv with rfl | rfl | rfl | rfl | rfl
   · rfl
   · exact hp1.R9
   · rfl
   · rfl
   · exact Qdp ks
 · have Sk : QZ w3 b [.int .u64 ow,pv,.int .u64 (val.getD 0 : Nat),.bool val.isSome,Xa ks] JV:=by simpa using hb3
   refine Sk.st (o:=0) (by simp) rfl fun w4 hb4 Ro Zl => ?_
   have U9 : Ext No w1 w4:=(he2.Z0 QE (by omega)).Z0 Zl (by omega)
   have h4:=h1.Q4 U9
   obtain ⟨pv',hb1',hp1'⟩:=h4.blk
   have hpv : pv' = pv:=by
    have:=(hb1.ext U9 fun h => h).inj hb1'
    simp at this
    exact this.symm
   subst hpv
   refine hb1'.ld (v:=Xa ks) rfl ?_
   refine (Qom h4.kd).mono ?_
   rintro kv w5 ⟨ks',rfl,hiff,hk5,ZR,hs5⟩
   have hb5:=hb4.ext ZR fun h => h
   refine hb5.st (o:=4) (by simp) (Qdp ks') fun w6 hb6 hz6 Ke => ?_
   have s1:=he1.size
   have s4:=U9.size
   have s5:=ZR.size
   have hsb : w1.heap.size ≤ b:=by omega
   have hnk : ∀ c ∈ ks',¬ (c = b):=fun c hc e => by
    subst e
    obtain ⟨cs,T,h3,h4⟩:=hk5.ty c hc
    exact h4.ne.2.1 (h3.inj hb5).2
   refine ⟨b,ks',rfl,⟨⟨pv',hb6,(hp1'.Q4 ZR).ext Ke fun c e _ => ?_⟩,hk5.ext Ke hnk,h.short,h.v64,(by have:=hm.fl; omega),fun c hc => (hs5 c hc).elim (fun h => by cases h) fun h => (by have:=hm.fl; omega)⟩,hiff,fun c hc => ?_,?_,?_⟩
   · have e : c = b:=e
     subst e
     exact ⟨by have:=hm.fl; omega,_,_,hb5,by decide⟩
   · rcases hc with rfl | hc
     · omega
     · rcases hs5 c hc with h | h
       · cases h
       · omega
   · refine ((hm1.Q4 U9).Q4 ZR).ext Ke fun c hc e => ?_
     have e : c = b:=e
     subst e
     exact ((hm1.Q4 U9).Q4 ZR).ne hb5 (by decide) hc
   · exact ((he1.Q0 U9).Q0 ZR).Z0 Ke (by omega)
end
end Go.Proofs.YtbnhggfiembejaaGreatDoor
end
section
namespace Go.Proofs.YtbnhggfiembejaaGreatDoor
open Go Go.RowKit X
set_option linter.unusedSimpArgs false
set_option linter.unusedVariables false
set_option linter.unusedSectionVars false
variable [Floor]
abbrev ptrs (kids : UInt8 → T) : UInt8 → Option Addr:=fun c => (kids c).ptr
abbrev T.v (t : T) : Value:=.pointer t.ptr
def Tree (w : World) : T → Prop
 | .nil => True
 | .node a ow part val ks kids => NA w a ow part val ks (ptrs kids) ∧ ∀ c,Tree w (kids c)
def T.All : T → Nat → Prop
 | .nil,_ => False
 | .node a _ _ _ ks kids,b => NX a ks b ∨ ∃ c,(kids c).All b
def T.Bt (o : Nat) : T → Nat → Prop
 | .nil,_ => False
 | .node a ow _ _ ks kids,b => (ow = o ∧ NX a ks b) ∨ ∃ c,(kids c).Bt o b
theorem T.Bt.all {o : Nat} : ∀ {t : T} {b : Nat},t.Bt o b → t.All b:=by
 intro t
 induction t with
 | nil => intro b h; exact h
 | node a ow part val ks kids ih =>
   intro b h
   rcases h with ⟨-,h⟩ | ⟨c,h⟩
   · exact .inl h
   · exact .inr ⟨c,ih c h⟩
theorem Tree.ty {w : World} : ∀ {t : T},Tree w t → ∀ {b : Nat},t.All b → ∃ cs T',QZ w b cs T' ∧ (T' = JV ∨ KT T'):=by
 intro t
 induction t with
 | nil => intro _ b h; exact h.elim
 | node a ow part val ks kids ih =>
   rintro ⟨h1,h2⟩ b h
   rcases h with h | ⟨c,h⟩
   · obtain ⟨pv,hb,-⟩:=h1.blk
     rcases h with rfl | h
     · exact ⟨_,_,hb,.inl rfl⟩
     · obtain ⟨cs,T',h3,h4⟩:=h1.kd.ty b h
       exact ⟨cs,T',h3,.inr h4⟩
   · exact ih c (h2 c) h
theorem Tree.lt {w : World} {t : T} (h : Tree w t) {b : Nat} (hb : t.All b) : b < w.heap.size:=by
 obtain ⟨cs,T',h1,-⟩:=h.ty hb
 exact h1.lt
theorem Tree.fl {w : World} : ∀ {t : T},Tree w t → ∀ {b : Nat},t.All b → Floor.n ≤ b:=by
 intro t
 induction t with
 | nil => intro _ b h; exact h.elim
 | node a ow part val ks kids ih =>
   rintro ⟨h1,h2⟩ b h
   rcases h with (rfl | h) | ⟨c,h⟩
   · exact h1.new.1
   · exact h1.new.2 b h
   · exact ih c (h2 c) h
theorem NT.ne {T' : TypeId} (h : T' = JV ∨ KT T') : T' ≠ Qm ∧ NoM T':=by
 rcases h with rfl | h
 · decide
 · exact ⟨h.ne.1,h.ne.2.2⟩
theorem Tree.ext {w w' : World} {X : Nat → Prop} (e : Ext X w w') (hb : NB w X) : ∀ {t : T},Tree w t → (∀ b,t.All b → ¬ X b) → Tree w' t:=by
 intro t
 induction t with
 | nil => intro _ _; trivial
 | node a ow part val ks kids ih =>
   rintro ⟨h1,h2⟩ hx
   exact ⟨h1.ext e hb (hx a (.inl (.inl rfl))) fun b hb => hx b (.inl (.inr hb)),fun c => ih c (h2 c) fun b hb => hx b (.inr ⟨c,hb⟩)⟩
theorem Tree.Q4 {w w' : World} {t : T} (h : Tree w t) (e : Ext No w w') : Tree w' t:=h.ext e (NB.no w) fun _ _ h => h
theorem Tree.YL {w w' : World} {t : T} {mt : Option Y3} {k : Nat} (h : Tree w t) (hm : Mt w mt k) (e : Ext (MX mt) w w') : Tree w' t :=
 h.ext e hm.nb fun b hb => by
  obtain ⟨cs,T',h1,h2⟩:=h.ty hb
  exact hm.ne h1 (NT.ne h2).2
theorem Tree.kid {w : World} {a ow : Nat} {part : Key} {val : Option Nat} {ks : List Nat} {kids : UInt8 → T} (h : Tree w (.node a ow part val ks kids)) (c : UInt8) : Tree w (kids c):=h.2 c
theorem Tree.na {w : World} {a ow : Nat} {part : Key} {val : Option Nat} {ks : List Nat} {kids : UInt8 → T} (h : Tree w (.node a ow part val ks kids)) : NA w a ow part val ks (ptrs kids):=h.1
def T.part : T → Key | .nil => [] | .node _ _ p _ _ _ => p
def T.val : T → Option Nat | .nil => none | .node _ _ _ v _ _ => v
def T.kid : T → UInt8 → T | .nil => fun _ => .nil | .node _ _ _ _ _ kids => kids
def T.kind : T → Nat | .nil => 0 | .node _ _ _ _ ks kids => Yx ks (ptrs kids)
section
variable {w : World} {t : T}
theorem XA (h : Tree w t) : Q6 P QD [t.v] w fun v w' => Bs w' v t.part ∧ Ext No w w':=by
 cases t with
 | nil =>
   refine Ef ?_
   exact Qr rfl ⟨Bs.nil w,Ext.refl _ _⟩
 | node a ow part val ks kids => exact QqT h.1
theorem Cj (h : Tree w t) : Q6 P Zc [t.v] w fun v w' => v = QkP t.val ∧ w' = w:=by
 cases t with
 | nil =>
   refine Pt ?_
   refine xjd ?_
   refine Qr rfl ?_
   exact fun g => ⟨rfl,rfl⟩
 | node a ow part val ks kids => exact QvI h.1
theorem Hg (h : Tree w t) : Q6 P J4 [t.v] w fun v w' => v = .int .i64 t.kind ∧ w' = w:=by
 cases t with
 | nil =>
   refine Ny ?_
   exact Qr rfl ⟨rfl,rfl⟩
 | node a ow part val ks kids => exact QqV h.1
theorem Qoi (h : Tree w t) : Q6 P Ye [t.v] w fun v w' => v = .int .i64 (cnt (ptrs t.kid)) ∧ w' = w:=by
 cases t with
 | nil =>
   refine Pv ?_
   refine Qr rfl ⟨?_,rfl⟩
   have : cnt (ptrs T.nil.kid) = 0:=by
    show cnt (fun _ => none : UInt8 → Option Addr) = 0
    simp [cnt,VG]
   rw [this]; rfl
 | node a ow part val ks kids => exact Qoh h.1
theorem FI (h : Tree w t) {b : UInt8} : Q6 P Zm [t.v,bv b] w fun v w' => v = (t.kid b).v ∧ Ext No w w':=by
 cases t with
 | nil =>
   refine Pw ?_
   exact Qr rfl ⟨rfl,Ext.refl _ _⟩
 | node a ow part val ks kids => exact QgJ h.1
theorem WS (h : Tree w t) {i : Nat} (hi : i ≤ 256) : Q6 P QP [t.v,.int .i64 i] w fun v w' => v = Vx (ptrs t.kid) i ∧ Ext No w w':=by
 cases t with
 | nil =>
   refine Nw ?_
   refine Qr rfl ⟨?_,Ext.refl _ _⟩
   have : Wd (ptrs T.nil.kid) i = none:=BG.2 fun _ _ => rfl
   simp [Vx,this]
 | node a ow part val ks kids => exact QqU h.1 hi
end
end Go.Proofs.YtbnhggfiembejaaGreatDoor
end
section
section
namespace Go.Proofs.YtbnhggfiembejaaGreatDoor
open Go Go.RowKit X
set_option linter.unusedSimpArgs false
set_option linter.unusedVariables false
set_option linter.unusedSectionVars false
variable [Floor]
def Oth (T : TypeId) : Prop:=T ≠ JV ∧ T ≠ Ab ∧ T ≠ XQ ∧ T ≠ XM ∧ T ≠ Jz ∧ T ≠ Dk ∧ T ≠ Qm
theorem Oth.nt {T T' : TypeId} (h : Oth T) (h' : T' = JV ∨ KT T') : T' ≠ T:=by
 obtain ⟨h1,h2,h3,h4,h5,h6,h7⟩:=h
 rcases h' with rfl | rfl | rfl | rfl | rfl | rfl
 · exact h1.symm
 · exact h2.symm
 · exact h3.symm
 · exact h4.symm
 · exact h5.symm
 · exact h6.symm
theorem nb1 {w : World} {b : Nat} {cs : List Value} {T : TypeId} (hb : QZ w b cs T) (ho : Oth T) (hf : Floor.n ≤ b) : NB w (· = b):=fun c e _ => by
 have e : c = b:=e
 subst e
 exact ⟨hf,_,_,hb,ho.2.2.2.2.2.2⟩
theorem Tree.Q1y {w w' : World} {t : T} {b : Nat} {cs : List Value} {T : TypeId} (h : Tree w t) (e : Ext (· = b) w w') (hb : QZ w b cs T) (ho : Oth T) (hf : Floor.n ≤ b) : Tree w' t :=
 h.ext e (nb1 hb ho hf) fun c hc he => by
  have he : c = b:=he
  subst he
  obtain ⟨cs',T',h1,h2⟩:=h.ty hc
  exact ho.nt h2 (h1.inj hb).2
theorem Bs.Q1y {w w' : World} {v : Value} {bs : Key} {b : Nat} {cs : List Value} {T : TypeId} (h : Bs w v bs) (e : Ext (· = b) w w') (hb : QZ w b cs T) (ho : Oth T) (hf : Floor.n ≤ b) : Bs w' v bs:=h.ext e (nb1 hb ho hf)
theorem Bg : Oth Xn:=by unfold Oth; decide
def E.steps : E → Key → Nat
 | .nil,_ => 0
 | .node part _ kids,k => if part <+: k then (match k.drop part.length with | [] => 1 | c :: r => (kids c).steps r + 1) else 1
def T.steps (t : T) (k : Key) : Nat:=t.er.steps k
section
variable {w : World} {t : T} {wb j s : Nat} {vk : Value} {k : Key}
theorem Qi1 (hf : Floor.n ≤ wb) (hw : QZ w wb [t.v,vk,.int .i64 j,.int .i64 s] Xn) (ht : Tree w t) (hk : Bs w vk k) (hj : j ≤ k.length) (hs : s < 4611686018427387904) (hkl : k.length ≤ 4611686018427387904) : Q6 P Aq [rp wb] w fun v w' =>
  Ext (· = wb) w w' ∧ ((t = .nil ∧ v = .bool false ∧ w' = w) ∨ (t ≠ .nil ∧ ¬ t.part <+: k.drop j ∧ v = .bool false ∧ QZ w' wb [t.v,vk,.int .i64 j,.int .i64 (s + 1 : Nat)] Xn) ∨
   (t ≠ .nil ∧ t.part <+: k.drop j ∧ v = .bool true ∧ QZ w' wb [t.v,vk,.int .i64 (j + t.part.length : Nat),.int .i64 (s + 1 : Nat)] Xn)):=by
 refine Q4A ?_
 refine hw.ld (v:=t.v) rfl ?_
 cases t with
 | nil => exact Qr rfl ⟨Ext.refl _ _,.inl ⟨rfl,rfl,rfl⟩⟩
 | node a ow part val ks kids =>
   refine Qp rfl ?_
   refine hw.ld (v:=.int .i64 s) rfl ?_
   refine xi (r:=((s + 1 : Nat) : Int)) (by rw [QQ (by omega)]; omega) ?_
   refine hw.st (o:=3) (by simp) rfl fun w1 hw1 hz1 he1 => ?_
   have ht1:=ht.Q1y he1 hw Bg hf
   have hk1:=hk.Q1y he1 hw Bg hf
   refine hw1.ld (v:=(T.node a ow part val ks kids).v) rfl ?_
   refine (XA ht1).mono ?_
   rintro pv w2 ⟨hp,he2⟩
   have hw2:=hw1.ext he2 fun h => h
   refine hw2.drew.ld (v:=vk) rfl ?_
   refine hw2.drew.ld (v:=.int .i64 j) rfl ?_
   have hk2 : Bs w2.drew vk k:=(hk1.Q4 he2).Q4 (Ext.refl No w2).drew
   have hp2 : Bs w2.drew pv part:=hp.Q4 (Ext.refl No w2).drew
   refine hk2.drop j rfl hj fun v' hv' => ?_
   refine (Qej hv' hp2).mono ?_
   rintro v w3 ⟨rfl,rfl⟩
   have hE : Ext (· = wb) w w2.drew:=(he1.Q0 he2).drew
   by_cases h : part <+: k.drop j
   · refine Qp (by rw [decide_eq_true h]; rfl) ?_
     have hl:=h.length_le
     rw [List.length_drop] at hl
     refine hw2.drew.ld (v:=.int .i64 j) rfl ?_
     refine hp2.len ?_
     refine xi (r:=((j + part.length : Nat) : Int)) (by rw [QQ (by omega)]; omega) ?_
     refine hw2.drew.st (o:=2) (by simp) rfl fun w4 hw4 Ro Zl => ?_
     exact ⟨hE.QI Zl,.inr (.inr ⟨by simp,h,rfl,hw4⟩)⟩
   · refine Qr (by rw [decide_eq_false h]; rfl) ⟨hE,.inr (.inl ⟨by simp,h,rfl,hw2.drew⟩)⟩
theorem Qi2 (hw : QZ w wb [t.v,vk,.int .i64 j,.int .i64 s] Xn) (hk : Bs w vk k) : Q6 P Ar [rp wb] w fun v w' => v = .bool (decide (j = k.length)) ∧ Ext No w w':=by
 refine Q4B ?_
 refine hw.drew.ld (v:=.int .i64 j) rfl ?_
 refine hw.drew.ld (v:=vk) rfl ?_
 refine hk.len ?_
 refine ⟨?_,(Ext.refl No w).drew⟩
 by_cases h : j = k.length
 · simp [h]
 · rw [decide_eq_false h]
   simp
   omega
theorem Qi3 (hw : QZ w wb [t.v,vk,.int .i64 j,.int .i64 s] Xn) (ht : Tree w t) (hk : Bs w vk k) {c : UInt8} {r : Key} (hc : k.drop j = c :: r) (hkl : k.length ≤ 4611686018427387904) : Q6 P Au [rp wb] w fun v w' =>
  QZ w' wb [(t.kid c).v,vk,.int .i64 (j + 1 : Nat),.int .i64 s] Xn ∧ Ext (· = wb) w w':=by
 have hjl : j < k.length:=by
  have:=congrArg List.length hc
  simp at this
  omega
 have hkc : k[j] = c:=by
  have:=congrArg (·[0]?) hc
  simp at this
  rw [List.getElem?_eq_getElem hjl] at this
  simpa using this
 refine Q4C ?_
 refine hw.drew.ld (v:=t.v) rfl ?_
 refine hw.drew.ld (v:=vk) rfl ?_
 refine hw.drew.ld (v:=.int .i64 j) rfl ?_
 refine (hk.Q4 (Ext.refl No w).drew).rd j hjl rfl ?_
 rw [hkc]
 refine (FI (ht.Q4 (Ext.refl No w).drew)).mono ?_
 rintro v w1 ⟨rfl,he1⟩
 have hw1:=hw.drew.ext he1 fun h => h
 refine hw1.st (o:=0) (by simp) rfl fun w2 hw2 hz2 he2 => ?_
 refine hw2.ld (v:=.int .i64 j) rfl ?_
 refine xi (r:=((j + 1 : Nat) : Int)) (by rw [QQ (by omega)]; omega) ?_
 refine hw2.st (o:=2) (by simp) rfl fun w3 hw3 hz3 QE => ?_
 exact ⟨hw3,((he1.KP.mono fun _ _ h => h.elim).QI he2).QI QE⟩
end
end Go.Proofs.YtbnhggfiembejaaGreatDoor
end
section
namespace Go.Proofs.YtbnhggfiembejaaGreatDoor
open Go Go.RowKit X
set_option linter.unusedSimpArgs false
set_option linter.unusedVariables false
set_option linter.unusedSectionVars false
variable [Floor]
theorem T.QdN {a ow : Nat} {part : Key} {val : Option Nat} {ks : List Nat} {kids : UInt8 → T} {k : Key} : (T.node a ow part val ks kids).get k = if part <+: k then (match k.drop part.length with | [] => val | c :: r => (kids c).get r) else none:=by
 show (E.node part val fun c => (kids c).er).get k = _
 rw [E.get]
 split <;> rfl
theorem T.DF {a ow : Nat} {part : Key} {val : Option Nat} {ks : List Nat} {kids : UInt8 → T} {k : Key} : (T.node a ow part val ks kids).steps k = if part <+: k then (match k.drop part.length with | [] => 1 | c :: r => (kids c).steps r + 1) else 1:=by
 show (E.node part val fun c => (kids c).er).steps k = _
 rw [E.steps]
 split <;> rfl
section
variable {w : World} {t : T} {vk : Value} {k : Key}
theorem QsV (hfl : Floor.n ≤ w.heap.size) (ht : Tree w t) (hk : Bs w vk k) (hkl : k.length ≤ 4611686018427387000) : Q6 P OQ [t.v,vk] w fun v w' => v = QkP (t.get k) ∧ Ext No w w':=by
 refine Qh6 ?_
 obtain ⟨ka,kc,rfl⟩:=hk.slice
 refine Qz fun wb w1 hb hblk hz he => ?_
 have hf : Floor.n ≤ wb:=by omega
 have hk1:=hk.Q4 he
 have ht1:=ht.Q4 he
 refine JN (fun nn vs w' => ∃ (u : T) (j s : Nat) (x y : Value),vs = [x,y] ∧ QZ w' wb [u.v,.slice ka k.length kc,.int .i64 j,.int .i64 s] Xn ∧ Tree w' u ∧ Bs w' (.slice ka k.length kc) k ∧ j ≤ k.length ∧ s ≤ j ∧ nn = k.length - j ∧ t.get k = u.get (k.drop j) ∧ Ext No w w') k.length
  ⟨t,0,0,_,_,rfl,hblk,ht1,hk1,by omega,by omega,rfl,rfl,he⟩ ?_
 rintro nn vs g w2 ⟨u,j,s,x,y,rfl,hw,hu,hk2,hj,hs,rfl,hget,hE⟩
 refine (Qi1 hf hw hu hk2 hj (by omega) (by omega)).mono ?_
 rintro v w3 ⟨QE,⟨rfl,rfl,rfl⟩ | ⟨hn,hp,rfl,hw3⟩ | ⟨hn,hp,rfl,hw3⟩⟩
 · refine Qp rfl ⟨?_,hE⟩
   rw [hget]; rfl
 · refine Qp rfl ⟨?_,hE.Z0 QE (by omega)⟩
   cases u with
   | nil => exact absurd rfl hn
   | node a ow part val ks kids =>
     have hp : ¬ part <+: k.drop j:=hp
     rw [hget,T.QdN,if_neg hp]
     rfl
 · refine Qr rfl ?_
   have JD:=hE.Z0 QE (by omega)
   have hu3:=hu.Q1y QE hw Bg hf
   have hk3:=hk2.Q1y QE hw Bg hf
   cases u with
   | nil => exact absurd rfl hn
   | node a ow part val ks kids =>
     have hp : part <+: k.drop j:=hp
     have hl:=hp.length_le
     rw [List.length_drop] at hl
     have hl : part.length ≤ k.length - j:=hl
     rw [T.QdN,if_pos hp,List.drop_drop] at hget
     refine (Qi2 hw3 hk3).mono ?_
     rintro v w4 ⟨rfl,Zl⟩
     have hw4:=hw3.ext Zl fun h => h
     have hu4:=hu3.Q4 Zl
     have hk4:=hk3.Q4 Zl
     refine ZF (fun he => ?_) fun hne => ?_
     · have he : j + part.length = k.length:=he
       refine hw4.ld (v:=(T.node a ow part val ks kids).v) rfl ?_
       refine (Cj hu4).mono ?_
       rintro v w5 ⟨rfl,rfl⟩
       rw [List.drop_eq_nil_of_le (by omega)] at hget
       exact ⟨by rw [hget]; rfl,JD.Q0 Zl⟩
     · have hne : j + part.length ≠ k.length:=hne
       cases hd : k.drop (j + part.length) with
       | nil =>
         have:=congrArg List.length hd
         simp at this
         omega
       | cons c r =>
         rw [hd] at hget
         refine (Qi3 (c:=c) (r:=r) hw4 hu4 hk4 hd (by omega)).mono ?_
         rintro v w5 ⟨Pn,ZR⟩
         have hr : k.drop (j + part.length + 1) = r:=by
          rw [← List.drop_drop,hd]; rfl
         refine JP (k.length - (j + part.length + 1)) (by omega) ⟨kids c,j + part.length + 1,s + 1,_,_,rfl,Pn,(hu4.kid c).Q1y ZR hw4 Bg hf,hk4.Q1y ZR hw4 Bg hf,by omega,by omega,rfl,by rw [hget,hr],(JD.Q0 Zl).Z0 ZR (by omega)⟩
theorem QBO (hfl : Floor.n ≤ w.heap.size) (ht : Tree w t) (hk : Bs w vk k) (hkl : k.length ≤ 4611686018427387000) : Q6 P Q1s [t.v,vk] w fun v w' => v = .bool (t.get k).isSome ∧ Ext No w w':=by
 refine Qh5 ?_
 refine (QsV hfl ht hk hkl).mono ?_
 rintro v w' ⟨rfl,he⟩
 exact ⟨rfl,he⟩
theorem X.MF {f : FuncId} {first captured : Array Value} {args : List Value} {K : FuncId → List Value → Prop} (h : K f (first.toList ++ args ++ captured.toList)) : Ic (.func (.func f) first captured) args K:=h
theorem X.XT {P : Program} {f : FuncId} {args : List Value} {w : World} {K : Value → World → Prop} (hb : Q4c P f = true) (h : Q6 P f args w K) : Ux P f args w K:=by
 unfold Ux
 rw [hb]
 exact h
end
end Go.Proofs.YtbnhggfiembejaaGreatDoor
end
end
section
namespace Go.Proofs.YtbnhggfiembejaaGreatDoor
open Go Go.RowKit X
set_option linter.unusedSimpArgs false
set_option linter.unusedVariables false
set_option linter.unusedSectionVars false
variable [Floor]
def T.Sep (o : Nat) : T → Prop
 | .nil => True
 | .node a ow _ _ ks kids => (∀ c,(kids c).Sep o) ∧ (∀ c d,c ≠ d → ∀ b,(kids c).Bt o b → ¬ (kids d).All b) ∧ (ow = o → ∀ b,NX a ks b → ∀ c,¬ (kids c).All b) ∧ (∀ c b,(kids c).Bt o b → ¬ NX a ks b)
def T.Q9P (o : Nat) : T → Prop
 | .nil => True
 | .node _ ow _ _ _ kids => ow ≠ o ∧ ∀ c,(kids c).Q9P o
theorem T.Q9P.foot {o : Nat} : ∀ {t : T},t.Q9P o → ∀ b,¬ t.Bt o b:=by
 intro t
 induction t with
 | nil => intro _ b h; exact h
 | node a ow part val ks kids ih =>
   rintro ⟨h1,h2⟩ b h
   rcases h with ⟨h,-⟩ | ⟨c,h⟩
   · exact h1 h
   · exact ih c (h2 c) b h
theorem T.Q9P.sep {o : Nat} : ∀ {t : T},t.Q9P o → t.Sep o:=by
 intro t
 induction t with
 | nil => intro _; trivial
 | node a ow part val ks kids ih =>
   rintro ⟨h1,h2⟩
   exact ⟨fun c => ih c (h2 c),fun c d _ b h => absurd h ((h2 c).foot b),fun h => absurd h h1,fun c b h => absurd h ((h2 c).foot b)⟩
def Zt (kids : UInt8 → T) (b : UInt8) (t : T) : UInt8 → T:=fun c => if c = b then t else kids c
theorem Vo (kids : UInt8 → T) (b : UInt8) (t : T) : Zt kids b t b = t:=by simp [Zt]
theorem WJ (kids : UInt8 → T) {b c : UInt8} (t : T) (h : c ≠ b) : Zt kids b t c = kids c:=by simp [Zt,h]
theorem Uf (kids : UInt8 → T) (b : UInt8) (t : T) : (fun c => (Zt kids b t c).er) = JU (fun c => (kids c).er) b t.er:=by
 funext c; unfold Zt JU; split <;> rfl
theorem GG (kids : UInt8 → T) (b : UInt8) (t : T) : ptrs (Zt kids b t) = upd (ptrs kids) b t.ptr:=by
 funext c
 by_cases h : c = b
 · subst h; simp [ptrs,Zt,upd]
 · simp [ptrs,Zt,upd,h]
structure AJ (w w' : World) (o : Nat) (t t' : T) (mt : Option Y3) (n : Nat) : Prop where
 tree : Tree w' t'
 ext : Ext (fun b => MX mt b ∨ t.Bt o b) w w'
 cnt : Mt w' mt n
 all : ∀ b,t'.All b → t.All b ∨ w.heap.size ≤ b
 foot : ∀ b,t'.Bt o b → t.Bt o b ∨ w.heap.size ≤ b
 sep : t'.Sep o
theorem Bt.nb {w : World} {t : T} {o : Nat} (h : Tree w t) : NB w (t.Bt o):=fun b hb _ => by
 obtain ⟨cs,T',h1,h2⟩:=h.ty hb.all
 exact ⟨h.fl hb.all,cs,T',h1,(NT.ne h2).1⟩
theorem Q79 {w : World} {t : T} {mt : Option Y3} {n b : Nat} (h : Tree w t) (hm : Mt w mt n) (hb : t.All b) : ¬ MX mt b:=by
 obtain ⟨cs,T',h1,h2⟩:=h.ty hb
 exact hm.ne h1 (NT.ne h2).2
theorem QBL {w : World} {a ow o : Nat} {part : Key} {val : Option Nat} {ks : List Nat} {m : UInt8 → Option Addr} {mt : Option Y3} {n : Nat} (h : NA w a ow part val ks m) (hm : Mt w mt n) : Q6 P K7 [rp a,mv mt,.int .u64 o] w fun v w' =>
  ∃ a' ks',v = rp a' ∧ NA w' a' o part val ks' m ∧ (ks' = [] ↔ ks = []) ∧ ((o ≠ 0 ∧ o = ow ∧ a' = a ∧ ks' = ks ∧ w' = w) ∨ (¬ (o ≠ 0 ∧ o = ow) ∧ (∀ b,NX a' ks' b → w.heap.size ≤ b) ∧ Mt w' mt (n + 1) ∧ Ext (MX mt) w w')):=by
 refine Q62 ?_
 refine (QbT h).mono ?_
 rintro v w' ⟨rfl,rfl⟩
 by_cases e : o ≠ 0 ∧ o = ow
 · rw [if_pos e]
   refine Qr rfl ⟨a,ks,rfl,?_,Iff.rfl,.inl ⟨e.1,e.2,rfl,rfl,rfl⟩⟩
   rw [e.2]; exact h
 · rw [if_neg e]
   refine Qp rfl ?_
   refine (QgR h hm).mono ?_
   rintro v w1 ⟨a',ks',rfl,h1,h2,h3,h4,h5⟩
   exact ⟨a',ks',rfl,h1,h2,.inr ⟨e,h3,h4,h5⟩⟩
end Go.Proofs.YtbnhggfiembejaaGreatDoor
end
section
section
namespace Go.Proofs.YtbnhggfiembejaaGreatDoor
open Go Go.RowKit X
set_option linter.unusedSimpArgs false
set_option linter.unusedVariables false
set_option linter.unusedSectionVars false
variable [Floor]
section
variable {w w1 : World} {o u : Nat} {t : T} {p : Key} {val : Option Nat} {Jw : List Nat} {kids : UInt8 → T} {mt : Option Y3} {n : Nat}
theorem AJ.QfE (h : AJ w w1 o t (.node u o p val Jw kids) mt n) {b : Nat} (hb : NX u Jw b) : t.Bt o b ∨ w.heap.size ≤ b:=h.foot b (.inl ⟨rfl,hb⟩)
theorem AJ.lt (h : AJ w w1 o t (.node u o p val Jw kids) mt n) {b : Nat} (hb : NX u Jw b) : b < w1.heap.size:=h.tree.lt (.inl hb)
theorem AJ.stU (h : AJ w w1 o t (.node u o p val Jw kids) mt n) {w2 : World} {p' : Key} {val' : Option Nat} (hna : NA w2 u o p' val' Jw (ptrs kids)) (he : Ext (· = u) w1 w2) : AJ w w2 o t (.node u o p' val' Jw kids) mt n:=by
 obtain ⟨pv,hb,-⟩:=h.tree.1.blk
 obtain ⟨s1,s2,s3,s4⟩:=h.sep
 refine ⟨⟨hna,fun c => ?_⟩,?_,?_,h.all,h.foot,⟨s1,s2,s3,s4⟩⟩
 · refine (h.tree.2 c).ext he (fun b e _ => ?_) fun b hb' e => ?_
   · have e : b = u:=e
     subst e
     exact ⟨h.tree.1.new.1,_,_,hb,by decide⟩
   · have e : b = u:=e
     subst e
     exact s3 rfl b (.inl rfl) c hb'
 · refine h.ext.trans he fun b hb' e => ?_
   have e : b = u:=e
   subst e
   rcases h.QfE (.inl rfl) with h1 | h1
   · exact .inr h1
   · omega
 · exact h.cnt.ext he fun b hb' e => by
    have e : b = u:=e
    subst e
    exact h.cnt.ne hb (by decide) hb'
theorem QbR (h : AJ w w1 o t (.node u o p val Jw kids) mt n) (ho : o ≠ 0) {x : Nat} (hx : x < 18446744073709551616) : Q6 P Zu [rp u,.int .u64 o,.int .u64 x] w1 fun _ w2 => AJ w w2 o t (.node u o p (some x) Jw kids) mt n ∧ Ext (· = u) w1 w2:=by
 refine (QaA h.tree.1 ho rfl hx).mono ?_
 rintro r w2 ⟨h1,h2⟩
 exact ⟨h.stU h1 h2,h2⟩
theorem QgH (h : AJ w w1 o t (.node u o p val Jw kids) mt n) (ho : o ≠ 0) (hne : Jw ≠ []) (hv : val.isSome) : Q6 P VU [rp u,.int .u64 o] w1 fun _ w2 => AJ w w2 o t (.node u o p none Jw kids) mt n ∧ Ext (· = u) w1 w2:=by
 refine (QgK h.tree.1 ho rfl hne hv).mono ?_
 rintro r w2 ⟨h1,h2⟩
 exact ⟨h.stU h1 h2,h2⟩
theorem Qi5 (h : AJ w w1 o t (.node u o p val Jw kids) mt n) (ho : o ≠ 0) {v : Value} {bs : Key} (hv : Bs w1 v bs) (hs : bs.length ≤ 65535) : Q6 P ZH [rp u,.int .u64 o,v] w1 fun _ w2 => AJ w w2 o t (.node u o bs val Jw kids) mt n ∧ Ext (· = u) w1 w2:=by
 refine (Q1B h.tree.1 ho rfl hv hs).mono ?_
 rintro r w2 ⟨h1,h2⟩
 exact ⟨h.stU h1 h2,h2⟩
theorem QgG (h : AJ w w1 o t (.node u o p val Jw kids) mt n) (ho : o ≠ 0) (hne : Jw ≠ []) {c0 : UInt8} {t2 : T} {a2 : Nat} (hp : t2.ptr = some ⟨a2,0,none⟩) (ht2 : Tree w1 t2) (hs2 : t2.Sep o) (hall : ∀ b,t2.All b → t.All b ∨ w.heap.size ≤ b) (QA0 : ∀ b,t2.Bt o b → t.Bt o b ∨ w.heap.size ≤ b)
  (hu : ∀ b,t2.All b → ¬ NX u Jw b) (hd : ∀ c,c ≠ c0 → ∀ b,t2.Bt o b → ¬ (kids c).All b) (hd2 : ∀ c,c ≠ c0 → ∀ b,(kids c).Bt o b → ¬ t2.All b) :
  Q6 P QL [rp u,.int .u64 o,bv c0,rp a2] w1 fun _ w2 => ∃ Yb,AJ w w2 o t (.node u o p val Yb (Zt kids c0 t2)) mt n ∧ Yb ≠ [] ∧ Ext (· ∈ Jw) w1 w2 ∧ Sub Jw Yb w1.heap.size:=by
 refine (Q4a h.tree.1 ho rfl hne).mono ?_
 rintro r w2 ⟨Yb,hna,hne',he,hsub⟩
 obtain ⟨s1,s2,s3,s4⟩:=h.sep
 have hz:=h.ext.size
 have hz2:=he.size
 have hnb : NB w1 (· ∈ Jw):=fun b hb _ => by
  obtain ⟨cs,T',h3,h4⟩:=h.tree.1.kd.ty b hb
  exact ⟨h.tree.1.new.2 b hb,cs,T',h3,h4.ne.1⟩
 have hNX : ∀ b,NX u Yb b → NX u Jw b ∨ w1.heap.size ≤ b:=fun b hb => by
  rcases hb with hb | hb
  · exact .inl (.inl hb)
  · rcases hsub b hb with h1 | h1
    · exact .inl (.inr h1)
    · exact .inr h1
 have htk : ∀ c,Tree w1 (Zt kids c0 t2 c):=fun c => by
  unfold Zt; split
  · exact ht2
  · exact h.tree.2 c
 have huk : ∀ c b,(Zt kids c0 t2 c).All b → ¬ NX u Jw b:=fun c b hb hx => by
  unfold Zt at hb; split at hb
  · exact hu b hb hx
  · exact s3 rfl b hx c hb
 refine ⟨Yb,⟨⟨?_,fun c => (htk c).ext he hnb fun b hb hx => huk c b hb (.inr hx)⟩,?_,?_,fun b hb => ?_,fun b hb => ?_,⟨fun c => ?_,fun c d hcd b hb hb2 => ?_,fun _ b hb c hc => ?_,fun c b hf hb => ?_⟩⟩,hne',he,hsub⟩
 · rw [GG,hp]; exact hna
 · refine h.ext.trans he fun b hb hx => ?_
   rcases h.QfE (.inr hx) with h1 | h1
   · exact .inr h1
   · omega
 · exact h.cnt.ext he fun b hb hx => by
    obtain ⟨cs,T',h3,h4⟩:=h.tree.1.kd.ty b hx
    exact h.cnt.ne h3 h4.ne.2.2 hb
 · rcases hb with hb | ⟨c,hb⟩
   · rcases hNX b hb with h1 | h1
     · exact h.all b (.inl h1)
     · exact .inr (by omega)
   · unfold Zt at hb; split at hb
     · exact hall b hb
     · exact h.all b (.inr ⟨c,hb⟩)
 · rcases hb with ⟨-,hb⟩ | ⟨c,hb⟩
   · rcases hNX b hb with h1 | h1
     · exact h.foot b (.inl ⟨rfl,h1⟩)
     · exact .inr (by omega)
   · unfold Zt at hb; split at hb
     · exact QA0 b hb
     · exact h.foot b (.inr ⟨c,hb⟩)
 · unfold Zt; split
   · exact hs2
   · exact s1 c
 · unfold Zt at hb hb2
   by_cases hc : c = c0
   · subst hc
     rw [if_pos rfl] at hb
     rw [if_neg (fun e => hcd e.symm)] at hb2
     exact hd d (fun e => hcd e.symm) b hb hb2
   · rw [if_neg hc] at hb
     split at hb2
     · exact hd2 c hc b hb hb2
     · exact s2 c d hcd b hb hb2
 · rcases hNX b hb with h1 | h1
   · exact huk c b hc h1
   · have:=(htk c).lt hc; omega
 · rcases hNX b hb with h1 | h1
   · exact huk c b hf.all h1
   · have:=(htk c).lt hf.all; omega
theorem QgI (h : AJ w w1 o t (.node u o p val Jw kids) mt n) (ho : o ≠ 0) (hne : Jw ≠ []) {c0 : UInt8} (hp : (kids c0).ptr.isSome) :
  Q6 P VV [rp u,.int .u64 o,bv c0] w1 fun _ w2 => ∃ Yb,AJ w w2 o t (.node u o p val Yb (Zt kids c0 .nil)) mt n ∧ Yb ≠ [] ∧ Ext (· ∈ Jw) w1 w2 ∧ Sub Jw Yb w1.heap.size:=by
 refine (QgL h.tree.1 ho rfl hne hp).mono ?_
 rintro r w2 ⟨Yb,hna,hne',he,hsub⟩
 obtain ⟨s1,s2,s3,s4⟩:=h.sep
 have hz:=h.ext.size
 have hz2:=he.size
 have hnb : NB w1 (· ∈ Jw):=fun b hb _ => by
  obtain ⟨cs,T',h3,h4⟩:=h.tree.1.kd.ty b hb
  exact ⟨h.tree.1.new.2 b hb,cs,T',h3,h4.ne.1⟩
 have hNX : ∀ b,NX u Yb b → NX u Jw b ∨ w1.heap.size ≤ b:=fun b hb => by
  rcases hb with hb | hb
  · exact .inl (.inl hb)
  · rcases hsub b hb with h1 | h1
    · exact .inl (.inr h1)
    · exact .inr h1
 have htk : ∀ c,Tree w1 (Zt kids c0 .nil c):=fun c => by
  unfold Zt; split
  · trivial
  · exact h.tree.2 c
 have hsub2 : ∀ c b,(Zt kids c0 .nil c).All b → (kids c).All b:=fun c b hb => by
  unfold Zt at hb; split at hb
  · exact hb.elim
  · exact hb
 have Qsf : ∀ c b,(Zt kids c0 .nil c).Bt o b → (kids c).Bt o b:=fun c b hb => by
  unfold Zt at hb; split at hb
  · exact hb.elim
  · exact hb
 refine ⟨Yb,⟨⟨?_,fun c => (htk c).ext he hnb fun b hb hx => s3 rfl b (.inr hx) c (hsub2 c b hb)⟩,?_,?_,fun b hb => ?_,fun b hb => ?_,⟨fun c => ?_,fun c d hcd b hb hb2 => s2 c d hcd b (Qsf c b hb) (hsub2 d b hb2),fun _ b hb c hc => ?_,fun c b hf hb => ?_⟩⟩,hne',he,hsub⟩
 · rw [GG]; exact hna
 · refine h.ext.trans he fun b hb hx => ?_
   rcases h.QfE (.inr hx) with h1 | h1
   · exact .inr h1
   · omega
 · exact h.cnt.ext he fun b hb hx => by
    obtain ⟨cs,T',h3,h4⟩:=h.tree.1.kd.ty b hx
    exact h.cnt.ne h3 h4.ne.2.2 hb
 · rcases hb with hb | ⟨c,hb⟩
   · rcases hNX b hb with h1 | h1
     · exact h.all b (.inl h1)
     · exact .inr (by omega)
   · exact h.all b (.inr ⟨c,hsub2 c b hb⟩)
 · rcases hb with ⟨-,hb⟩ | ⟨c,hb⟩
   · rcases hNX b hb with h1 | h1
     · exact h.foot b (.inl ⟨rfl,h1⟩)
     · exact .inr (by omega)
   · exact h.foot b (.inr ⟨c,Qsf c b hb⟩)
 · unfold Zt; split
   · trivial
   · exact s1 c
 · rcases hNX b hb with h1 | h1
   · exact s3 rfl b h1 c (hsub2 c b hc)
   · have:=(htk c).lt hc; omega
 · rcases hNX b hb with h1 | h1
   · exact s3 rfl b h1 c (hsub2 c b hf.all)
   · have:=(htk c).lt hf.all; omega
end
end Go.Proofs.YtbnhggfiembejaaGreatDoor
end
section
namespace Go.Proofs.YtbnhggfiembejaaGreatDoor
open Go Go.RowKit X
set_option linter.unusedSimpArgs false
set_option linter.unusedVariables false
set_option linter.unusedSectionVars false
variable [Floor]
structure Q4P (w w' : World) (o : Nat) (t : T) (u ow : Nat) (p : Key) (val : Option Nat) (Jw : List Nat) (m : UInt8 → Option Addr) (kids : UInt8 → T) (mt : Option Y3) (n : Nat) : Prop where
 na : NA w' u ow p val Jw m
 sub : ∀ c,Tree w' (kids c)
 ext : Ext (fun b => MX mt b ∨ t.Bt o b) w w'
 cnt : Mt w' mt n
 all : ∀ b,(T.node u ow p val Jw kids).All b → t.All b ∨ w.heap.size ≤ b
 foot : ∀ b,(T.node u ow p val Jw kids).Bt o b → t.Bt o b ∨ w.heap.size ≤ b
 sep : (T.node u ow p val Jw kids).Sep o
section
variable {w w1 : World} {o u ow : Nat} {t : T} {p : Key} {val : Option Nat} {Jw : List Nat} {m : UInt8 → Option Addr} {kids : UInt8 → T} {mt : Option Y3} {n : Nat}
theorem Q4P.res (h : Q4P w w1 o t u ow p val Jw m kids mt n) (hm : m = ptrs kids) : AJ w w1 o t (.node u ow p val Jw kids) mt n:=by
 subst hm
 exact ⟨⟨h.na,h.sub⟩,h.ext,h.cnt,h.all,h.foot,h.sep⟩
theorem AJ.h (h : AJ w w1 o t (.node u ow p val Jw kids) mt n) : Q4P w w1 o t u ow p val Jw (ptrs kids) kids mt n:=⟨h.tree.1,h.tree.2,h.ext,h.cnt,h.all,h.foot,h.sep⟩
theorem AJ.start (ht : Tree w t) (hs : t.Sep o) (hm : Mt w mt n) : AJ w w o t t mt n:=⟨ht,Ext.refl _ _,hm,fun b h => .inl h,fun b h => .inl h,hs⟩
theorem AJ.Q4 {t' : T} (h : AJ w w1 o t t' mt n) {w2 : World} (e : Ext No w1 w2) : AJ w w2 o t t' mt n:=⟨h.tree.Q4 e,h.ext.Q0 e,h.cnt.Q4 e,h.all,h.foot,h.sep⟩
theorem Q4P.Q4 (h : Q4P w w1 o t u ow p val Jw m kids mt n) {w2 : World} (e : Ext No w1 w2) : Q4P w w2 o t u ow p val Jw m kids mt n:=⟨h.na.Q4 e,fun c => (h.sub c).Q4 e,h.ext.Q0 e,h.cnt.Q4 e,h.all,h.foot,h.sep⟩
theorem Q1C (h : Q4P w w1 o t u ow p val Jw m kids mt n) (ho : o ≠ 0) : Q6 P K7 [rp u,mv mt,.int .u64 o] w1 fun v w2 =>
  ∃ u' Yb n',v = rp u' ∧ Q4P w w2 o t u' o p val Yb m kids mt n' ∧ (Yb = [] ↔ Jw = []) ∧ Ext (MX mt) w1 w2 ∧ n' ≤ n + 1 ∧ (o = ow → u' = u ∧ Yb = Jw ∧ n' = n):=by
 refine (QBL (o:=o) h.na h.cnt).mono ?_
 rintro v w2 ⟨u',Yb,rfl,hna,hiff,⟨-,rfl,rfl,rfl,rfl⟩ | ⟨hno,hfr,hm2,he2⟩⟩
 · exact ⟨u',Yb,n,rfl,h,Iff.rfl,Ext.refl _ _,by omega,fun _ => ⟨rfl,rfl,rfl⟩⟩
 · obtain ⟨s1,s2,s3,s4⟩:=h.sep
   have hz:=h.ext.size
   refine ⟨u',Yb,n + 1,rfl,⟨hna,fun c => (h.sub c).YL h.cnt he2,h.ext.QI (he2.mono fun b _ hb => .inl hb),hm2,fun b hb => ?_,fun b hb => ?_,⟨s1,s2,fun _ b hb c hc => ?_,fun c b hf hb => ?_⟩⟩,hiff,he2,by omega,fun e => absurd ⟨ho,e⟩ hno⟩
   · rcases hb with hb | hb
     · exact .inr (by have:=hfr b hb; omega)
     · exact h.all b (.inr hb)
   · rcases hb with ⟨-,hb⟩ | hb
     · exact .inr (by have:=hfr b hb; omega)
     · exact h.foot b (.inr hb)
   · have:=hfr b hb; have:=(h.sub c).lt hc; omega
   · have:=hfr b hb; have:=(h.sub c).lt hf.all; omega
theorem Qor (h : Q4P w w1 o t u o p val Jw m kids mt n) (ho : o ≠ 0) (hne : Jw ≠ []) {c0 : UInt8} {a2 : Nat} (hp : (kids c0).ptr = some ⟨a2,0,none⟩) (hm : ∀ c,c ≠ c0 → m c = (kids c).ptr) :
  Q6 P QL [rp u,.int .u64 o,bv c0,rp a2] w1 fun _ w2 => ∃ Yb,AJ w w2 o t (.node u o p val Yb kids) mt n ∧ Yb ≠ [] ∧ Ext (· ∈ Jw) w1 w2:=by
 refine (Q4a h.na ho rfl hne).mono ?_
 rintro r w2 ⟨Yb,hna,hne',he,hsub⟩
 obtain ⟨s1,s2,s3,s4⟩:=h.sep
 have hz:=h.ext.size
 have hz2:=he.size
 have hnb : NB w1 (· ∈ Jw):=fun b hb _ => by
  obtain ⟨cs,T',h3,h4⟩:=h.na.kd.ty b hb
  exact ⟨h.na.new.2 b hb,cs,T',h3,h4.ne.1⟩
 have hNX : ∀ b,NX u Yb b → NX u Jw b ∨ w1.heap.size ≤ b:=fun b hb => by
  rcases hb with hb | hb
  · exact .inl (.inl hb)
  · rcases hsub b hb with h1 | h1
    · exact .inl (.inr h1)
    · exact .inr h1
 have hmm : upd m c0 (some ⟨a2,0,none⟩) = ptrs kids:=by
  funext c
  by_cases e : c = c0
  · subst e; rw [upd_same]; exact hp.symm
  · rw [C8 m _ e]; exact hm c e
 rw [hmm] at hna
 refine ⟨Yb,⟨⟨hna,fun c => (h.sub c).ext he hnb fun b hb hx => s3 rfl b (.inr hx) c hb⟩,?_,?_,fun b hb => ?_,fun b hb => ?_,⟨s1,s2,fun _ b hb c hc => ?_,fun c b hf hb => ?_⟩⟩,hne',he⟩
 · refine h.ext.trans he fun b hb hx => ?_
   rcases h.foot b (.inl ⟨rfl,.inr hx⟩) with h1 | h1
   · exact .inr h1
   · omega
 · exact h.cnt.ext he fun b hb hx => by
    obtain ⟨cs,T',h3,h4⟩:=h.na.kd.ty b hx
    exact h.cnt.ne h3 h4.ne.2.2 hb
 · rcases hb with hb | hb
   · rcases hNX b hb with h1 | h1
     · exact h.all b (.inl h1)
     · exact .inr (by omega)
   · exact h.all b (.inr hb)
 · rcases hb with ⟨-,hb⟩ | hb
   · rcases hNX b hb with h1 | h1
     · exact h.foot b (.inl ⟨rfl,h1⟩)
     · exact .inr (by omega)
   · exact h.foot b (.inr hb)
 · rcases hNX b hb with h1 | h1
   · exact s3 rfl b h1 c hc
   · have:=(h.sub c).lt hc; omega
 · rcases hNX b hb with h1 | h1
   · exact s4 c b hf h1
   · have:=(h.sub c).lt hf.all; omega
theorem Q4P.kid {a : Nat} (ht : Tree w (.node a ow p val Jw kids)) (hs : (T.node a ow p val Jw kids).Sep o) (hm : Mt w mt n) {c0 : UInt8} {t2 : T} {n2 : Nat} (h : AJ w w1 o (kids c0) t2 mt n2) :
  Q4P w w1 o (.node a ow p val Jw kids) a ow p val Jw (ptrs kids) (Zt kids c0 t2) mt n2:=by
 obtain ⟨s1,s2,s3,s4⟩:=hs
 have hz:=h.ext.size
 have hlt : ∀ b,NX a Jw b → b < w.heap.size:=fun b hb => ht.lt (.inl hb)
 have QzB : ∀ c b,(kids c).All b → b < w.heap.size:=fun c b hb => (ht.2 c).lt hb
 have hnb : NB w (fun b => MX mt b ∨ (kids c0).Bt o b):=hm.nb.or (Bt.nb (ht.2 c0))
 have hx : ∀ b,NX a Jw b → ¬ (MX mt b ∨ (kids c0).Bt o b):=fun b hb hx => by
  rcases hx with hx | hx
  · exact Q79 ht hm (.inl hb) hx
  · exact s4 c0 b hx hb
 have h2 : ∀ b,t2.All b → (kids c0).All b ∨ w.heap.size ≤ b:=h.all
 refine ⟨ht.1.ext h.ext hnb (hx a (.inl rfl)) fun b hb => hx b (.inr hb),fun c => ?_,?_,h.cnt,fun b hb => ?_,fun b hb => ?_,⟨fun c => ?_,fun c d hcd b hb hb2 => ?_,fun hoo b hb c hc => ?_,fun c b hf hb => ?_⟩⟩
 · unfold Zt; split
   · exact h.tree
   · rename_i hc
     refine (ht.2 c).ext h.ext hnb fun b hb hx => ?_
     rcases hx with hx | hx
     · exact Q79 (ht.2 c) hm hb hx
     · exact s2 c0 c (Ne.symm hc) b hx hb
 · exact h.ext.mono fun b _ hb => hb.elim .inl fun hb => .inr (.inr ⟨c0,hb⟩)
 · rcases hb with hb | ⟨c,hb⟩
   · exact .inl (.inl hb)
   · unfold Zt at hb; split at hb
     · exact (h2 b hb).elim (fun h => .inl (.inr ⟨c0,h⟩)) .inr
     · exact .inl (.inr ⟨c,hb⟩)
 · rcases hb with hb | ⟨c,hb⟩
   · exact .inl (.inl hb)
   · unfold Zt at hb; split at hb
     · exact (h.foot b hb).elim (fun h => .inl (.inr ⟨c0,h⟩)) .inr
     · exact .inl (.inr ⟨c,hb⟩)
 · unfold Zt; split
   · exact h.sep
   · exact s1 c
 · unfold Zt at hb hb2
   by_cases hc : c = c0
   · subst hc
     rw [if_pos rfl] at hb
     rw [if_neg (fun e => hcd e.symm)] at hb2
     rcases h.foot b hb with h3 | h3
     · exact s2 c d hcd b h3 hb2
     · have:=QzB d b hb2; omega
   · rw [if_neg hc] at hb
     split at hb2
     · rename_i hd
       subst hd
       rcases h2 b hb2 with h3 | h3
       · exact s2 c d hcd b hb h3
       · have:=QzB c b hb.all; omega
     · exact s2 c d hcd b hb hb2
 · unfold Zt at hc; split at hc
   · rcases h2 b hc with h3 | h3
     · exact s3 hoo b hb c0 h3
     · have:=hlt b hb; omega
   · exact s3 hoo b hb c hc
 · unfold Zt at hf; split at hf
   · rcases h.foot b hf with h3 | h3
     · exact s4 c0 b h3 hb
     · have:=hlt b hb; omega
   · exact s4 c b hf hb
end
end Go.Proofs.YtbnhggfiembejaaGreatDoor
end
end
