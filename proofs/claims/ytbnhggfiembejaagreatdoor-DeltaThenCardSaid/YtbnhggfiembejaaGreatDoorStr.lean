import Derived.Test.YtbnhggfiembejaaGreatDoorKeys
import Derived.Test.YtbnhggfiembejaaGreatDoorMap
import Derived.Lib.Builder
import Derived.Lib.UnsafeStr
import Derived.Lib.AppendStr
import Derived.Test.YtbnhggfiembejaaGreatDoorRow
import Derived.Test.YtbnhggfiembejaaGreatDoorNode
section
namespace Go.Proofs.YtbnhggfiembejaaGreatDoor
open Go Go.RowKit X
set_option linter.unusedSimpArgs false
set_option linter.unusedVariables false
set_option linter.unusedSectionVars false
structure Bld (w : World) (B b : Nat) (bs : List UInt8) : Prop where
 ge : B ≤ b
 le : B ≤ w.heap.size
 at_ : ∃ p v,QZ w b [p,v] Y0 ∧ (p = .pointer none ∨ p = .pointer (some ⟨b,0,none⟩)) ∧ Own w B Qm 1 v bs.length (bs.map bv) ∧ v.ownBlock ≠ some b
theorem Qb3 (l : List UInt8) : Lib.strCells ⟨l.toArray⟩ = l.map bv:=rfl
section
variable {w : World} {B b : Nat} {bs : List UInt8}
theorem Bld.fresh (hb : QZ w b [.pointer none,.slice none 0 0] Y0) (hB : B ≤ b) : Bld w B b [] :=
 ⟨hB,Nat.le_of_lt (Nat.lt_of_le_of_lt hB hb.lt),_,_,hb,.inl rfl,Own.nil w B Qm 1,fun h => by cases h⟩
theorem X.QZ.st1 {o : Nat} {cs cs' : List Value} {T : TypeId} {v : Value} {K : World → Prop} (h : QZ w b cs T) (ho : o < cs.length) (hv : v.oneCell' = true) (hc : cs.set o v = cs')
  (k : ∀ w1,QZ w1 b cs' T → w1.heap.size = w.heap.size → Ext (· = b) w w1 → K w1) : Uw w ⟨b,o,none⟩ v K:=h.st ho hv fun w1 h1 => k w1 (hc ▸ h1)
theorem Own.R9 {e : TypeId} {sz n : Nat} {v : Value} {xs : List Value} (h : Own w B e sz v n xs) : v.oneCell' = true:=by
 rcases h.2 with ⟨rfl,-⟩ | ⟨g,cap,cur,rfl,-⟩ <;> rfl
set_option maxRecDepth 100000 in
theorem Qef (h : Bld w B b bs) : Q6 P XG [.pointer (some ⟨b,0,none⟩)] w fun r w' => Bld w' B b bs ∧ Ext (B ≤ ·) w w' ∧ w'.heap.size = w.heap.size:=by
 obtain ⟨hge,hle,p,v,hblk,hp,hown,hne⟩:=h
 refine Gh ?_
 refine hblk.ld (o:=0) (v:=p) rfl ?_
 rcases hp with rfl | rfl
 · refine Qr rfl ?_
   refine ⟨_,_,Lib.run_to_unsafe (P:=P) (t:=Y0) (e:=Y0) (cells:=2) w ⟨b,0,none⟩ (by kernel_rfl) (by kernel_rfl) (j:=(P.info? Y0).getD default) (by kernel_rfl) (by decide +kernel) hblk.shape (show (0 : Nat) < 2 by omega),?_⟩
   refine Qpp (e:=Extern.AbiNoEscape.same) (by kernel_rfl) (by kernel_rfl) (by kernel_rfl) ?_
   refine ⟨_,_,Lib.run_noEscape (P:=P) w _,?_⟩
   refine ⟨_,_,Lib.run_from_unsafe (P:=P) (u:=Y0) (e:=Y0) (cells:=2) w ⟨b,0,none⟩ (by kernel_rfl) (by kernel_rfl) (j:=(P.info? Y0).getD default) (by kernel_rfl) hblk.shape (by kernel_rfl),?_⟩
   refine hblk.st1 (o:=0) (by simp) rfl rfl fun w1 hb1 hz1 he1 => ?_
   refine ⟨⟨hge,by omega,_,_,hb1,.inr rfl,hown.ext he1 fun c hc e => ?_,hne⟩,he1.mono fun c _ e => by subst e; exact hge,hz1⟩
   have e : c = b:=e
   exact hne (e ▸ hc)
 · refine Qp rfl ?_
   refine hblk.ld (o:=0) (v:=.pointer (some ⟨b,0,none⟩)) rfl ?_
   refine ⟨true,by rw [Q71]; simp,?_⟩
   exact Qp rfl ⟨⟨hge,hle,_,v,hblk,.inr rfl,hown,hne⟩,Ext.refl _ _,rfl⟩
theorem VN (h : Bld w B b bs) {s : List UInt8} (hl : bs.length + s.length ≤ 140737488355328) : Q6 P Zv [.pointer (some ⟨b,0,none⟩),str s] w fun r w' => Bld w' B b (bs ++ s) ∧ Ext (B ≤ ·) w w':=by
 refine EL ?_
 refine (Qef h).mono ?_
 rintro r w1 ⟨⟨hge,hle,p,v,hblk,hp,hown,hne⟩,he1,hz1⟩
 refine hblk.ld (o:=1) (v:=v) rfl ?_
 obtain ⟨i,hi1,hi2,hi3,hi4⟩:=Uq.parts
 have hsz : (ByteArray.mk s.toArray).size = s.length:=by simp [ByteArray.size]
 obtain ⟨v',w2,hrun,hown2,hgrow,-⟩:=Lib.run_append_own_string (P:=P) w1 B Ji Q8D Ji Qm i Uq.u QcR hi1 hi2 hi3 hi4 v bs.length (bs.map bv) hown ⟨s.toArray⟩ (by rw [hsz]; unfold maxLen; omega) (by rw [hsz]; omega) hle
 refine ⟨v',w2,hrun,?_⟩
 have hE2:=Qjy hgrow
 have hblk2:=hblk.ext hE2 fun e => hne e
 rw [hsz,Qb3] at hown2
 refine hblk2.st1 (o:=1) (by simp) (Own.R9 hown2) rfl fun w3 hb3 hz3 QE => ?_
 have hne2 : v'.ownBlock ≠ some b:=fun e => by
  rcases hown2.2 with ⟨rfl,-⟩ | ⟨g,cap,cur,rfl,-,hg,-⟩
  · cases e
  · simp only [Value.ownBlock,Option.some.injEq] at e
    subst e
    have:=hg.symm.trans hblk2.h
    simp at this
    exact absurd this.2 (by decide)
 have hE : Ext (B ≤ ·) w1 w2:=hE2.mono fun c _ hc => (hown.ge hc).1
 refine ⟨⟨hge,by have:=hE2.size; omega,p,v',hb3,hp,?_,hne2⟩,(he1.QI hE).QI (QE.mono fun c _ e => by subst e; exact hge)⟩
 rw [List.map_append,List.length_append]
 exact Own.ext hown2 QE fun c hc e => hne2 (e ▸ hc)
theorem Bld.heap (h : Bld w B b bs) : B ≤ w.heap.size:=h.le
theorem Qgk {g n : Nat} : Ext (· = g) w (w.freeze ⟨g,0,none⟩ n):=by
 unfold World.freeze
 split
 · exact Ext.refl _ _
 · exact ⟨rfl,rfl,rfl,by simp,fun c hc hx => by
    show (w.heap.modify g _)[c]? = _
    rw [Array.getElem?_modify,if_neg (Ne.symm hx)]⟩
set_option maxRecDepth 100000 in
theorem Qo6 (h : Bld w B b bs) (h0 : bs ≠ []) : Q6 P VJ [.pointer (some ⟨b,0,none⟩)] w fun r w' => r = str bs ∧ Ext (B ≤ ·) w w':=by
 obtain ⟨hge,hle,p,v,hblk,hp,hown,hne⟩:=h
 have hl0 : bs.length ≠ 0:=by simpa using h0
 refine Mw ?_
 refine hblk.drew.ld (o:=1) (v:=v) rfl ?_
 refine hblk.drew.ld (o:=1) (v:=v) rfl ?_
 refine KN hown.sl ?_
 obtain ⟨g,cap,cur,rfl,hbg,hg,hnc,hcm,hcs,htake⟩ : ∃ g cap cur,v = .slice (some ⟨g,0,none⟩) bs.length cap ∧ B ≤ g ∧ w.heap[g]? = some (.cells cur Qm (0,0)) ∧ bs.length ≤ cap ∧ cap ≤ maxLen ∧ cur.size = cap * 1 ∧ cur.toList.take (bs.length * 1) = bs.map bv:=by
  rcases hown.2 with ⟨_,hz⟩ | ⟨g,cap,cur,hv,r⟩
  · exact absurd hz hl0
  · exact ⟨g,cap,cur,hv,r⟩
 refine ⟨_,_,Lib.run_unsafeSliceData_row _ _ _ _ _ _ (by omega),?_⟩
 refine ⟨(hblk.drew.cell 1).trans rfl,?_⟩
 have hg' : QZ w.drew g cur.toList Qm:=⟨hg⟩
 refine ⟨_,_,Lib.run_unsafeString_row (P:=P) w.drew _ _ _ Qm (by kernel_rfl) (by kernel_rfl) g cur.size (by rw [hg'.shape]; simp) bs h0 (by omega) (by unfold maxLen at hcm; omega) ?_,?_⟩
 · intro j x hx
   refine Sl.Sv (v:=.pointer none) (hown.drew.sl) j _ ?_
   simp [hx]
 · exact ⟨rfl,((Ext.refl (B ≤ ·) w).drew).QI (Qgk.mono fun c _ e => by subst e; exact hbg)⟩
end
end Go.Proofs.YtbnhggfiembejaaGreatDoor
end
section
section
namespace Go.Proofs.YtbnhggfiembejaaGreatDoor
open Go Go.RowKit X
set_option linter.unusedSimpArgs false
set_option linter.unusedVariables false
set_option linter.unusedSectionVars false
theorem Qpy (l m : List UInt8) : (ByteArray.mk l.toArray ++ ByteArray.mk m.toArray) = ⟨(l ++ m).toArray⟩:=by
 apply ByteArray.ext
 simp
theorem QcS (l : List UInt8) : (ByteArray.mk l.toArray).size = l.length:=by simp [ByteArray.size]
theorem Ru {l m : List UInt8} {K : Value → Prop} (h : l.length + m.length ≤ 9223372036854775807) (k : K (str (l ++ m))) : BZ (str l) (str m) K :=
 ⟨by rw [QcS,QcS]; omega,by rw [Qpy]; exact k⟩
theorem Q6I {l m : List UInt8} {K : Value → Prop} (k : K (.bool (decide (l = m)))) : Q1j (str l) (str m) K:=by
 show K (.bool ((ByteArray.mk l.toArray).toList == (ByteArray.mk m.toArray).toList))
 rw [toList_mk,toList_mk]
 have : (l == m) = decide (l = m):=by
  by_cases e : l = m <;> simp [e]
 rw [this]; exact k
theorem Q6J {s : ByteArray} {kd : IntKind} {i : Int} {K : Value → Prop} (n : Nat) (c : UInt8) (hi : i = (n : Int)) (hs : s[n]? = some c) (k : K (bv c)) : V4 (.string s) (.int kd i) K:=⟨n,c,hi,hs,k⟩
theorem QmU : ∀ n : Fin 16,(ByteArray.mk #[48,49,50,51,52,53,54,55,56,57,97,98,99,100,101,102])[n.1]? = some (Q9o n.1):=by decide +kernel
theorem QhI : ∀ n : Fin 16,(ByteArray.mk #[48,49,50,51,52,53,54,55,56,57,97,98,99,100,101,102]).extract n.1 (n.1 + 1) = ⟨[Q9o n.1].toArray⟩:=by decide +kernel
theorem QqC : ∀ n : Fin 10,(ByteArray.mk #[48,49,50,51,52,53,54,55,56,57]).extract n.1 (n.1 + 1) = ⟨[UInt8.ofNat (48 + n.1)].toArray⟩:=by decide +kernel
theorem QCi : ∀ n : Fin 256,IntKind.u8.wrap ((BitVec.ofInt IntKind.u8.bits (n.1 : Int) &&& BitVec.ofInt IntKind.u8.bits 15).toNat : Int) = ((n.1 % 16 : Nat) : Int):=by decide +kernel
theorem Qnv (a b : Nat) : (a : Int).fdiv (b : Int) = ((a / b : Nat) : Int):=by
 rw [Int.fdiv_eq_ediv_of_nonneg _ (by omega)]; rfl
theorem Qlr (a b : Nat) : (a : Int).tdiv (b : Int) = ((a / b : Nat) : Int):=rfl
theorem Qlp (a b : Nat) : (a : Int).tmod (b : Int) = ((a % b : Nat) : Int):=rfl
theorem MV (c : UInt8) : c.toNat < 256:=c.toNat_lt
section
variable {w : World}
theorem QaS {kd : IntKind} {a b : Nat} {K : Value → Prop} (hb : b ≠ 0) (hw : kd.wrap ((a / b : Nat) : Int) = ((a / b : Nat) : Int)) (k : K (.int kd ((a / b : Nat) : Int))) : Q3C (.int kd (a : Int)) (.int kd (b : Int)) K:=by
 have h1 : Ha (b : Int) = false:=by unfold Ha; simp; omega
 unfold Q3C Et
 have h2 : sameKind kd kd = true:=by unfold sameKind; simp
 simp only [h2,h1]
 exact ⟨by rw [Qlr,hw]; exact k⟩
theorem QaR {kd : IntKind} {a b : Nat} {K : Value → Prop} (hb : b ≠ 0) (k : K (.int kd ((a % b : Nat) : Int))) : Q3B (.int kd (a : Int)) (.int kd (b : Int)) K:=by
 have h1 : Ha (b : Int) = false:=by unfold Ha; simp; omega
 unfold Q3B Et
 have h2 : sameKind kd kd = true:=by unfold sameKind; simp
 simp only [h2,h1]
 exact ⟨by rw [Qlp]; exact k⟩
theorem Qkg {kd kd' : IntKind} {a b : Nat} {K : Value → Prop} (k : K (.int kd ((a / 2 ^ min b kd.bits : Nat) : Int))) : Q9e (.int kd (a : Int)) (.int kd' (b : Int)) K:=by
 have h1 : isNeg (b : Int) = false:=by unfold isNeg; simp
 unfold Q9e
 simp only [h1]
 refine ⟨?_⟩
 have : (2 : Int) ^ min ((b : Int)).toNat kd.bits = ((2 ^ min b kd.bits : Nat) : Int):=by simp
 rw [this,Qnv]
 exact k
theorem Vv {n : Nat} (h : n < 4294967296) : IntKind.u32.wrap (n : Int) = (n : Int):=by
 have:=IntKind.wrap_u32 (n : Int)
 omega
end
theorem Qae {k : Key} {i : Nat} (h : i < k.length) : Da (k.take (i + 1)) = Da (k.take i) ++ Bb k[i]:=by
 rw [← List.take_append_getElem h]
 unfold Da
 rw [List.flatMap_append]
 congr 1
variable [Floor]
section
variable {w : World} {v : Value} {k : Key}
theorem Qo5 (h : Bs w v k) (hl : k.length ≤ 17592186044416) : Q6 P Iq [v] w fun r w' => r = str (Da k) ∧ Ext No w w':=by
 refine QeT ?_
 refine h.len ?_
 refine xi (r:=((2 * k.length : Nat) : Int)) (by rw [QQ (by omega)]; omega) ?_
 refine Q7b Uq rfl rfl (Nat.zero_le _) (by omega) (by omega) fun b w1 hb hz hblk he => ?_
 refine h.len ?_
 have ho1 : Own w1 w.heap.size Qm 1 (.slice (some ⟨b,0,none⟩) 0 (2 * k.length)) 0 []:=⟨rfl,.inr ⟨b,2 * k.length,_,rfl,by omega,hblk.h,by omega,by unfold maxLen; omega,by simp [Ik,QJ],rfl⟩⟩
 refine JN (fun n vs w' => ∃ (i : Nat) (x vb : Value),vs = [.int .i64 i,x,vb] ∧ i ≤ k.length ∧ n = k.length - i ∧ Own w' w.heap.size Qm 1 vb (2 * i) ((Da (k.take i)).map bv) ∧ Ext No w w') k.length
  ⟨0,_,_,rfl,by omega,rfl,ho1,he⟩ ?_
 rintro n vs g w2 ⟨i,x,vb,rfl,hi,rfl,ho,hE⟩
 have h2:=h.Q4 hE
 refine ZF (fun hlt => ?_) fun hge => ?_
 · have hik : i < k.length:=by omega
   refine h2.rd i hik rfl ?_
   generalize hc : k[i] = c
   refine Qkg (a:=c.toNat) (b:=4) ?_
   have hcl:=MV c
   have e1 : c.toNat / 2 ^ min 4 IntKind.u8.bits = c.toNat / 16:=rfl
   rw [e1]
   refine Q6J (c.toNat / 16) _ rfl (QmU ⟨c.toNat / 16,by omega⟩) ?_
   refine xi (r:=((c.toNat % 16 : Nat) : Int)) (QCi ⟨c.toNat,hcl⟩) ?_
   refine Q6J (c.toNat % 16) _ rfl (QmU ⟨c.toNat % 16,by omega⟩) ?_
   show Qs w2.drew [bv (Q9o (c.toNat / 16)),bv (Q9o (c.toNat % 16))] Qm _
   refine Qz fun a w3 ha hbl hz3 QE => ?_
   have JD : Ext No w2 w3:=QE.KP
   have hs2:=hE.size
   have hs3:=JD.size
   have hsl : Sl w3 (tyQ Qm) (.slice (some ⟨a,0,none⟩) 2 2) 1 2 [bv (Q9o (c.toNat / 16)),bv (Q9o (c.toNat % 16))]:=by
    have:=hbl.sl (o:=0) (n:=2) (cap:=2) (by simp) (Nat.le_refl _)
    simpa using this
   refine Vi Uq (ho.Q4 JD) (by omega) hsl (by intro u hu; simp at hu; rcases hu with rfl | rfl <;> rfl) (by omega) (by omega) fun v' w4 ho4 U9 _ hb4 => ?_
   refine xi (r:=((i + 1 : Nat) : Int)) (by rw [QQ (by omega)]; omega) ?_
   refine JP (k.length - (i + 1)) (by omega) ⟨i + 1,_,v',rfl,by omega,rfl,?_,(hE.Q0 JD).own (ho.Q4 JD) (Nat.le_refl _) U9⟩
   have e2 : (Da (k.take i)).map bv ++ [bv (Q9o (c.toNat / 16)),bv (Q9o (c.toNat % 16))] = (Da (k.take (i + 1))).map bv:=by
    rw [Qae hik,hc,List.map_append]
    rfl
   rw [e2,show 2 * i + 2 = 2 * (i + 1) by omega] at ho4
   exact ho4
 · have : i = k.length:=by omega
   subst this
   rw [List.take_length] at ho
   have hsl:=ho.sl
   rw [← ED k] at hsl
   exact Q2A Uq.u Qpx QcR hsl ⟨rfl,hE⟩
theorem QjN {c : UInt8} : Q6 P GU [bv c] w fun r w' => r = str (Bb c) ∧ Ext No w w':=by
 refine Q8r ?_
 have hcl:=MV c
 refine xi (r:=(c.toNat : Int)) (QQ (by omega)) ?_
 refine QaS (a:=c.toNat) (b:=16) (by omega) (QQ (by omega)) ?_
 refine xi (r:=(c.toNat : Int)) (QQ (by omega)) ?_
 refine QaR (a:=c.toNat) (b:=16) (by omega) ?_
 refine xi (r:=((c.toNat / 16 + 1 : Nat) : Int)) (by rw [QQ (by omega)]; omega) ?_
 refine Q1S (c.toNat / 16) (c.toNat / 16 + 1) rfl rfl (by omega) (by show c.toNat / 16 + 1 ≤ 16; omega) ?_
 refine xi (r:=((c.toNat % 16 + 1 : Nat) : Int)) (by rw [QQ (by omega)]; omega) ?_
 refine Q1S (c.toNat % 16) (c.toNat % 16 + 1) rfl rfl (by omega) (by show c.toNat % 16 + 1 ≤ 16; omega) ?_
 rw [QhI ⟨c.toNat / 16,by omega⟩,QhI ⟨c.toNat % 16,by omega⟩]
 refine Ru (by simp) ?_
 exact ⟨rfl,(Ext.refl No w).drew⟩
theorem QbL (h : Bs w v k) (hl : k.length ≤ 17592186044416) : Q6 P CP [v] w fun r w' => r = str (Da k) ∧ Ext No w w':=by
 refine Qca ?_
 refine JN (fun n vs w' => ∃ (i : Nat),vs = [.int .i64 i,str (Da (k.take i))] ∧ i ≤ k.length ∧ n = k.length - i ∧ Ext No w w') k.length ⟨0,rfl,by omega,rfl,Ext.refl _ _⟩ ?_
 rintro n vs g w1 ⟨i,rfl,hi,rfl,he⟩
 refine h.len ?_
 refine ZF (fun hlt => ?_) fun hge => ?_
 · have hik : i < k.length:=by omega
   refine (h.Q4 he).rd i hik rfl ?_
   refine QjN.mono ?_
   rintro r w2 ⟨rfl,he2⟩
   refine Ru (by rw [ED,List.length_take]; simp [Bb]; omega) ?_
   refine xi (r:=((i + 1 : Nat) : Int)) (by rw [QQ (by omega)]; omega) ?_
   refine JP (k.length - (i + 1)) (by omega) ⟨i + 1,?_,by omega,rfl,he.Q0 he2⟩
   rw [Qae hik]
 · have : i = k.length:=by omega
   subst this
   exact ⟨by show str (Da (k.take k.length)) = _; rw [List.take_length],he⟩
theorem A9 (n : Nat) (h : n < 18446744073709551616) : (Xb n).length ≤ 20:=by
 have key : ∀ d n,n < 10 ^ (d + 1) → (Xb n).length ≤ d + 1:=by
  intro d
  induction d with
  | zero => intro n h; rw [Xz (by simpa using h)]; simp
  | succ d ih =>
    intro n h
    by_cases e : n < 10
    · rw [Xz e]; simp
    · rw [EF e,List.length_append]
      have:=ih (n / 10) (by rw [Nat.div_lt_iff_lt_mul (by omega)]; rw [Nat.pow_succ] at h; exact h)
      simp; omega
 exact key 19 n (by omega)
theorem Q7Y {n : Nat} (hn : n < 18446744073709551616) : Q6 P UO [.int .u64 n] w fun r w' => r = str (Xb n) ∧ w' = w:=by
 refine Q8p ?_
 refine JN (fun nn vs w' => ∃ (m : Nat) (s : List UInt8) (x : Value),vs = [.int .u64 m,x,str s,str []] ∧ nn = m ∧ m ≤ n ∧ Xb n = Xb m ++ s ∧ w' = w) n ⟨n,[],_,rfl,rfl,Nat.le_refl _,by simp,rfl⟩ ?_
 rintro nn vs g w1 ⟨m,s,x,rfl,hnn,hm,hs,rfl⟩
 have hsl : s.length ≤ 20:=by have:=A9 n hn; rw [hs] at this; simp at this; omega
 refine QaR (a:=m) (b:=10) (by omega) ?_
 refine xi (r:=((m % 10 : Nat) : Int)) (QQ (by omega)) ?_
 refine xi (r:=((m % 10 + 1 : Nat) : Int)) (by rw [QQ (by omega)]; omega) ?_
 refine Q1S (m % 10) (m % 10 + 1) rfl rfl (by omega) (by show m % 10 + 1 ≤ 10; omega) ?_
 rw [QqC ⟨m % 10,by omega⟩]
 refine Ru (by simp; omega) ?_
 refine QaS (a:=m) (b:=10) (by omega) (G5 (by omega)) ?_
 refine Vu (fun e => ?_) fun e => ?_
 · have e : m < 10:=by omega
   refine ⟨?_,rfl⟩
   have e5 : m % 10 = m:=by omega
   rw [hs,Xz e]
   show str ([UInt8.ofNat (48 + m % 10)] ++ s) = _
   rw [e5]
 · have e : ¬ m < 10:=by omega
   refine JP (m / 10) (by omega) ⟨m / 10,_,_,rfl,rfl,by omega,?_,rfl⟩
   rw [hs,EF e,List.append_assoc]
end
end Go.Proofs.YtbnhggfiembejaaGreatDoor
end
section
namespace Go.Proofs.YtbnhggfiembejaaGreatDoor
open Go Go.RowKit X
set_option linter.unusedSimpArgs false
set_option linter.unusedVariables false
set_option linter.unusedSectionVars false
theorem len8 : ∀ n : Fin 256,n.1 ≠ 0 → (ByteArray.mk #[0,1,2,2,3,3,3,3,4,4,4,4,4,4,4,4,5,5,5,5,5,5,5,5,5,5,5,5,5,5,5,5,6,6,6,6,6,6,6,6,6,6,6,6,6,6,6,6,6,6,6,6,6,6,6,6,6,6,6,6,6,6,6,6,7,7,7,7,7,7,7,7,7,7,7,7,7,7,7,7,7,7,7,7,7,7,7,7,7,7,7,7,7,7,7,7,7,7,7,7,7,7,7,7,7,7,7,7,7,7,7,7,7,7,7,7,7,7,7,7,7,7,7,7,7,7,7,7,8,8,8,8,8,8,8,8,8,8,8,8,8,8,8,8,8,8,8,8,8,8,8,8,8,8,8,8,8,8,8,8,8,8,8,8,8,8,8,8,8,8,8,8,8,8,8,8,8,8,8,8,8,8,8,8,8,8,8,8,8,8,8,8,8,8,8,8,8,8,8,8,8,8,8,8,8,8,8,8,8,8,8,8,8,8,8,8,8,8,8,8,8,8,8,8,8,8,8,8,8,8,8,8,8,8,8,8,8,8,8,8,8,8,8,8,8,8,8,8,8,8,8,8,8,8,8,8])[n.1]? = some (UInt8.ofNat (n.1.log2 + 1)):=by decide +kernel
theorem Qmb {u s : Nat} (h : u / 2 ^ s ≠ 0) : u.log2 = (u / 2 ^ s).log2 + s:=by
 have hu : u ≠ 0:=fun e => h (by rw [e]; simp)
 obtain ⟨h1,h2⟩:=(Nat.log2_eq_iff h).1 rfl
 have hp : 0 < 2 ^ s:=Nat.pow_pos (by omega)
 rw [Nat.log2_eq_iff hu]
 constructor
 · rw [Nat.pow_add]
   exact Nat.le_trans (Nat.mul_le_mul_right _ h1) (Nat.div_mul_le_self u (2 ^ s))
 · rw [show (u / 2 ^ s).log2 + s + 1 = (u / 2 ^ s).log2 + 1 + s by omega,Nat.pow_add]
   rwa [Nat.div_lt_iff_lt_mul hp] at h2
theorem tens : ∀ l : Fin 64,((l.1 + 1) * 78913 / 2 ^ 18 = 0 ∨ 10 ^ ((l.1 + 1) * 78913 / 2 ^ 18 - 1) ≤ 2 ^ l.1) ∧ 2 ^ (l.1 + 1) ≤ 10 ^ ((l.1 + 1) * 78913 / 2 ^ 18 + 1) ∧ (l.1 + 1) * 78913 / 2 ^ 18 < 20:=by decide +kernel
theorem Q5g : ∀ {d u : Nat},(d = 0 ∨ 10 ^ d ≤ u) → u < 10 ^ (d + 1) → (Xb u).length = d + 1:=by
 intro d
 induction d with
 | zero => intro u _ h; rw [Xz (by simpa using h)]; rfl
 | succ d ih =>
   intro u h1 h2
   have h1 : 10 ^ (d + 1) ≤ u:=h1.resolve_left (by omega)
   have hp : 0 < 10 ^ d:=Nat.pow_pos (by omega)
   rw [Nat.pow_succ] at h1 h2
   have h2' : u / 10 < 10 ^ (d + 1):=by rwa [Nat.div_lt_iff_lt_mul (by omega)]
   have h3 : ¬ u < 10:=by omega
   rw [EF h3,List.length_append,ih (.inr ((Nat.le_div_iff_mul_le (by omega)).2 h1)) h2']
   rfl
def Q2a : Nat → Nat → List UInt8
 | 0,_ => []
 | n + 1,u => Q2a n (u / 10) ++ [UInt8.ofNat (48 + u % 10)]
theorem QiM (n u : Nat) : Q2a (n + 1) u = UInt8.ofNat (48 + u / 10 ^ n % 10) :: Q2a n u:=by
 induction n generalizing u with
 | zero => simp [Q2a]
 | succ n ih =>
   rw [Q2a,ih,Q2a,Nat.div_div_eq_div_mul,Nat.pow_succ,Nat.mul_comm 10]
   rfl
theorem Qd8 {n u : Nat} (h : (Xb u).length = n) : Q2a n u = Xb u:=by
 induction n generalizing u with
 | zero =>
   exact (List.eq_nil_of_length_eq_zero h).symm
 | succ n ih =>
   by_cases e : u < 10
   · rw [Xz e] at h ⊢
     have : n = 0:=by simpa using h.symm
     subst this
     rw [Q2a,Q2a,Nat.mod_eq_of_lt e]; rfl
   · rw [EF e] at h ⊢
     rw [Q2a,ih (by simpa using h)]
theorem smalls : ∀ n : Fin 100,(ByteArray.mk #[48,48,48,49,48,50,48,51,48,52,48,53,48,54,48,55,48,56,48,57,49,48,49,49,49,50,49,51,49,52,49,53,49,54,49,55,49,56,49,57,50,48,50,49,50,50,50,51,50,52,50,53,50,54,50,55,50,56,50,57,51,48,51,49,51,50,51,51,51,52,51,53,51,54,51,55,51,56,51,57,52,48,52,49,52,50,52,51,52,52,52,53,52,54,52,55,52,56,52,57,53,48,53,49,53,50,53,51,53,52,53,53,53,54,53,55,53,56,53,57,54,48,54,49,54,50,54,51,54,52,54,53,54,54,54,55,54,56,54,57,55,48,55,49,55,50,55,51,55,52,55,53,55,54,55,55,55,56,55,57,56,48,56,49,56,50,56,51,56,52,56,53,56,54,56,55,56,56,56,57,57,48,57,49,57,50,57,51,57,52,57,53,57,54,57,55,57,56,57,57])[2 * n.1]? = some (UInt8.ofNat (48 + n.1 / 10)) ∧ (ByteArray.mk #[48,48,48,49,48,50,48,51,48,52,48,53,48,54,48,55,48,56,48,57,49,48,49,49,49,50,49,51,49,52,49,53,49,54,49,55,49,56,49,57,50,48,50,49,50,50,50,51,50,52,50,53,50,54,50,55,50,56,50,57,51,48,51,49,51,50,51,51,51,52,51,53,51,54,51,55,51,56,51,57,52,48,52,49,52,50,52,51,52,52,52,53,52,54,52,55,52,56,52,57,53,48,53,49,53,50,53,51,53,52,53,53,53,54,53,55,53,56,53,57,54,48,54,49,54,50,54,51,54,52,54,53,54,54,54,55,54,56,54,57,55,48,55,49,55,50,55,51,55,52,55,53,55,54,55,55,55,56,55,57,56,48,56,49,56,50,56,51,56,52,56,53,56,54,56,55,56,56,56,57,57,48,57,49,57,50,57,51,57,52,57,53,57,54,57,55,57,56,57,57])[2 * n.1 + 1]? = some (UInt8.ofNat (48 + n.1 % 10)):=by decide +kernel
theorem Qfs : ∀ n : Fin 100,(ByteArray.mk #[48,48,48,49,48,50,48,51,48,52,48,53,48,54,48,55,48,56,48,57,49,48,49,49,49,50,49,51,49,52,49,53,49,54,49,55,49,56,49,57,50,48,50,49,50,50,50,51,50,52,50,53,50,54,50,55,50,56,50,57,51,48,51,49,51,50,51,51,51,52,51,53,51,54,51,55,51,56,51,57,52,48,52,49,52,50,52,51,52,52,52,53,52,54,52,55,52,56,52,57,53,48,53,49,53,50,53,51,53,52,53,53,53,54,53,55,53,56,53,57,54,48,54,49,54,50,54,51,54,52,54,53,54,54,54,55,54,56,54,57,55,48,55,49,55,50,55,51,55,52,55,53,55,54,55,55,55,56,55,57,56,48,56,49,56,50,56,51,56,52,56,53,56,54,56,55,56,56,56,57,57,48,57,49,57,50,57,51,57,52,57,53,57,54,57,55,57,56,57,57]).extract (2 * n.1) (2 * n.1 + 2) = ⟨[UInt8.ofNat (48 + n.1 / 10),UInt8.ofNat (48 + n.1 % 10)].toArray⟩:=by decide +kernel
theorem QpL : ∀ n : Fin 10,(ByteArray.mk #[48,49,50,51,52,53,54,55,56,57,97,98,99,100,101,102,103,104,105,106,107,108,109,110,111,112,113,114,115,116,117,118,119,120,121,122]).extract n.1 (n.1 + 1) = ⟨[UInt8.ofNat (48 + n.1)].toArray⟩:=by decide +kernel
section
variable {w : World}
theorem QhU {n : Nat} (h : n < 100) : Q6 P Ap [.int .i64 n] w fun r w' => r = str (Xb n) ∧ w' = w:=by
 refine Q4z ?_
 refine ZF (fun h1 => ?_) fun h1 => ?_
 · refine xi (r:=((n + 1 : Nat) : Int)) (by rw [QQ (by omega)]; omega) ?_
   refine Q1S n (n + 1) rfl rfl (by omega) (by show n + 1 ≤ 36; omega) ?_
   rw [QpL ⟨n,by omega⟩,Xz (by omega)]
   exact ⟨rfl,rfl⟩
 · refine xi (r:=((2 * n : Nat) : Int)) (by rw [QQ (by omega)]; omega) ?_
   refine xi (r:=((2 * n : Nat) : Int)) (by rw [QQ (by omega)]; omega) ?_
   refine xi (r:=((2 * n + 2 : Nat) : Int)) (by rw [QQ (by omega)]; omega) ?_
   refine Q1S (2 * n) (2 * n + 2) rfl rfl (by omega) (by show 2 * n + 2 ≤ 200; omega) ?_
   rw [Qfs ⟨n,h⟩,EF (by omega),Xz (by omega)]
   exact ⟨rfl,rfl⟩
set_option maxRecDepth 100000 in
theorem QqW {u : Nat} (h1 : 1 ≤ u) (h2 : u < 18446744073709551616) : Q6 P OU [.int .u64 u] w fun r w' => r = .int .i64 ((u.log2 + 1 : Nat) : Int) ∧ w' = w:=by
 refine Qck ?_
 refine xj (fun vs w' => ∃ s x : Nat,vs = [.int .u64 x,.int .i64 s] ∧ s ≤ 32 ∧ x = u / 2 ^ s ∧ x ≠ 0 ∧ x < 4294967296 ∧ w' = w) ?_ ?_
 · refine ZF (fun h => ?_) fun h => ⟨0,u,rfl,by omega,by simp,by omega,by omega,rfl⟩
   refine Qkg (a:=u) (b:=32) ?_
   exact ⟨32,_,rfl,by omega,rfl,by show u / 4294967296 ≠ 0; omega,by show u / 4294967296 < _; omega,rfl⟩
 rintro vs g w1 ⟨s,x,rfl,hs,hx,hx0,hxl,rfl⟩
 refine xj (fun vs w' => ∃ s x : Nat,vs = [.int .u64 x,.int .i64 s] ∧ s ≤ 48 ∧ x = u / 2 ^ s ∧ x ≠ 0 ∧ x < 65536 ∧ w' = w1) ?_ ?_
 · refine ZF (fun h => ?_) fun h => ⟨s,x,rfl,by omega,hx,hx0,by omega,rfl⟩
   refine Qkg (a:=x) (b:=16) ?_
   refine xi (r:=((s + 16 : Nat) : Int)) (by rw [QQ (by omega)]; omega) ?_
   exact ⟨s + 16,_,rfl,by omega,by rw [hx,Nat.div_div_eq_div_mul,← Nat.pow_add]; rfl,by show x / 65536 ≠ 0; omega,by show x / 65536 < _; omega,rfl⟩
 rintro vs g w2 ⟨s,x,rfl,hs,hx,hx0,hxl,rfl⟩
 refine xj (fun vs w' => ∃ s x : Nat,vs = [.int .u64 x,.int .i64 s] ∧ s ≤ 56 ∧ x = u / 2 ^ s ∧ x ≠ 0 ∧ x < 256 ∧ w' = w2) ?_ ?_
 · refine ZF (fun h => ?_) fun h => ⟨s,x,rfl,by omega,hx,hx0,by omega,rfl⟩
   refine Qkg (a:=x) (b:=8) ?_
   refine xi (r:=((s + 8 : Nat) : Int)) (by rw [QQ (by omega)]; omega) ?_
   exact ⟨s + 8,_,rfl,by omega,by rw [hx,Nat.div_div_eq_div_mul,← Nat.pow_add]; rfl,by show x / 256 ≠ 0; omega,by show x / 256 < _; omega,rfl⟩
 rintro vs g w3 ⟨s,x,rfl,hs,hx,hx0,hxl,rfl⟩
 refine xi (r:=((x : Nat) : Int)) (Rv (by omega)) ?_
 refine Q6J x _ rfl (len8 ⟨x,hxl⟩ hx0) ?_
 have QzD : x.log2 < 8:=(Nat.log2_lt hx0).2 (by omega)
 have e1 : (UInt8.ofNat (x.log2 + 1)).toNat = x.log2 + 1:=by simp; omega
 show Kq .i64 (.int .u8 ((UInt8.ofNat (x.log2 + 1)).toNat : Int)) _
 rw [e1]
 refine xi (r:=((x.log2 + 1 : Nat) : Int)) (QQ (by omega)) ?_
 have e2 : u.log2 = x.log2 + s:=by rw [hx]; exact Qmb (by rw [← hx]; exact hx0)
 refine xi (r:=((u.log2 + 1 : Nat) : Int)) (by rw [QQ (by omega)]; omega) ?_
 exact ⟨rfl,rfl⟩
def Tab (w : World) : Prop:=∀ i,i < 20 → w.cell? ⟨QH,i,none⟩ = some (.int .u64 (10 ^ i : Nat))
set_option maxRecDepth 100000 in
theorem Q5k (ht : Tab w) {u : Nat} (h1 : 1 ≤ u) (h2 : u < 18446744073709551616) : Q6 P VC [.int .u64 u] w fun r w' => r = .int .i64 ((Xb u).length : Nat) ∧ w' = w:=by
 refine T9 ?_
 refine (QqW h1 h2).mono ?_
 rintro r w1 ⟨rfl,rfl⟩
 have hu0 : u ≠ 0:=by omega
 have QzD : u.log2 < 64:=(Nat.log2_lt hu0).2 (by omega)
 obtain ⟨k1,k2⟩:=(Nat.log2_eq_iff hu0).1 rfl
 obtain ⟨t1,t2,t3⟩:=tens ⟨u.log2,QzD⟩
 have t1 : (u.log2 + 1) * 78913 / 2 ^ 18 = 0 ∨ 10 ^ ((u.log2 + 1) * 78913 / 2 ^ 18 - 1) ≤ 2 ^ u.log2:=t1
 have t2 : 2 ^ (u.log2 + 1) ≤ 10 ^ ((u.log2 + 1) * 78913 / 2 ^ 18 + 1):=t2
 have t3 : (u.log2 + 1) * 78913 / 2 ^ 18 < 20:=t3
 generalize hL : u.log2 + 1 = L at *
 have hc : Q6 P UU [.int .i64 (L : Int)] w1 fun r w' => r = .int .i64 ((L * 78913 / 2 ^ 18 : Nat) : Int) ∧ w' = w1:=by
  refine Ta ?_
  refine xi (r:=((L * 78913 : Nat) : Int)) (by rw [QQ (by omega)]; omega) ?_
  refine Qkg (a:=L * 78913) (b:=18) ?_
  exact ⟨rfl,rfl⟩
 refine hc.mono ?_
 rintro r w2 ⟨rfl,rfl⟩
 generalize L * 78913 / 2 ^ 18 = t at *
 refine xix t rfl t3 ?_
 refine ⟨_,(by rw [Nat.mul_one,show (⟨QH,0,none⟩ : Addr).add t = ⟨QH,0 + t,none⟩ from Addr.add_lit _ _ _,Nat.zero_add]; exact ht t t3),?_⟩
 have hb : ∀ b : Bool,Q6 P UW [.bool b] w2 fun r w' => r = .int .i64 (if b then 1 else 0) ∧ w' = w2:=by
  intro b
  refine Tc ?_
  cases b
  · exact Qp rfl ⟨rfl,rfl⟩
  · exact Qr rfl ⟨rfl,rfl⟩
 refine (hb _).mono ?_
 rintro r w3 ⟨rfl,rfl⟩
 by_cases hge : 10 ^ t ≤ u
 · rw [if_pos (by simp; exact_mod_cast hge)]
   refine xi (r:=((t + 1 : Nat) : Int)) (by rw [QQ (by omega)]; omega) ?_
   rw [Q5g (d:=t) (.inr hge) (by omega)]
   exact ⟨rfl,rfl⟩
 · rw [if_neg (by simp; exact_mod_cast Nat.lt_of_not_le hge)]
   refine xi (r:=((t : Nat) : Int)) (by rw [QQ (by omega)]; omega) ?_
   cases t with
   | zero => simp at hge; omega
   | succ t =>
     rw [Q5g (d:=t) (by rcases t1 with h | h
                        · omega
                        · exact .inr (by simp at h; omega)) (by omega)]
     exact ⟨rfl,rfl⟩
end
end Go.Proofs.YtbnhggfiembejaaGreatDoor
end
section
namespace Go.Proofs.YtbnhggfiembejaaGreatDoor
open Go Go.RowKit X
set_option linter.unusedSimpArgs false
set_option linter.unusedVariables false
set_option linter.unusedSectionVars false
structure Fm (cells : List Value) (o n u nd : Nat) (c : List Value) : Prop where
 len : c.length = cells.length
 le : nd ≤ n
 fit : o + n ≤ cells.length
 pre : c.take o = cells.take o
 post : c.drop (o + nd) = (Q2a (n - nd) u).map bv ++ cells.drop (o + n)
theorem Fm.start {cells : List Value} {o n u : Nat} (h : o + n ≤ cells.length) : Fm cells o n u n cells:=⟨rfl,Nat.le_refl _,h,rfl,by simp [Q2a]⟩
theorem Q9u {α : Type} {l : List α} {i : Nat} {a : α} (h : i < l.length) : (l.set i a).drop i = a :: l.drop (i + 1):=by
 rw [List.set_eq_take_append_cons_drop,if_pos h,List.drop_append_of_le_length (by simp; omega)]
 rw [List.drop_eq_nil_of_le (by simp; omega),List.nil_append]
theorem Fm.set {cells : List Value} {o n u nd : Nat} {c : List Value} (h : Fm cells o n u (nd + 1) c) {d : Value} (hd : d = bv (UInt8.ofNat (48 + u / 10 ^ (n - nd - 1) % 10))) : Fm cells o n u nd (c.set (o + nd) d):=by
 have h1:=h.len
 have h2:=h.le
 have h3:=h.fit
 refine ⟨by simp [h.len],by omega,h.fit,?_,?_⟩
 · rw [List.take_set_of_le (by omega),h.pre]
 · rw [Q9u (by omega),show o + nd + 1 = o + (nd + 1) by omega,h.post,show n - nd = (n - nd - 1) + 1 by omega,QiM,hd,show n - (nd + 1) = n - nd - 1 by omega]
   rfl
theorem Fm.done {cells : List Value} {o n u : Nat} {c : List Value} (h : Fm cells o n u 0 c) : c = cells.take o ++ ((Q2a n u).map bv ++ cells.drop (o + n)):=by
 rw [← h.pre]
 have:=h.post
 simp only [Nat.add_zero,Nat.sub_zero] at this
 rw [← this,List.take_append_drop]
section
variable {w : World} {g o n u : Nat} {cells : List Value} {T : TypeId}
theorem Qnt {c : List Value} {nd cap : Nat} {K : World → Prop} {i : Int} {d : Value} (hb : QZ w g c T) (h : Fm cells o n u (nd + 1) c) (hi : i = (nd : Int)) (hd : d = bv (UInt8.ofNat (48 + u / 10 ^ (n - nd - 1) % 10)))
  (k : ∀ w1 c1,QZ w1 g c1 T → Fm cells o n u nd c1 → w1.heap.size = w.heap.size → Ext (· = g) w w1 → K w1) : Zb (.slice (some ⟨g,o,none⟩) n cap) (.int .i64 i) 1 fun p => Z6 p fun a => Uw w a d K:=by
 have h1:=h.len
 have h2:=h.le
 have h3:=h.fit
 refine ⟨nd,hi,by omega,?_⟩
 show Uw w ((⟨g,o,none⟩ : Addr).add (nd * 1)) d K
 rw [show (⟨g,o,none⟩ : Addr).add (nd * 1) = ⟨g,o + nd,none⟩ by rw [Nat.mul_one]; exact Addr.add_lit _ _ _]
 refine hb.st (by omega) (by rw [hd]; rfl) fun w1 hb1 hz1 he1 => k w1 _ hb1 (h.set hd) hz1 he1
theorem OY {s : ByteArray} {c : List Value} {N a X cap : Nat} {K : World → Prop} (hb : QZ w g c T) (h : Fm cells o n u (N - a + 1) c) (ha : a + 1 ≤ N) (hN : N ≤ 1000) (hX : X = u / 10 ^ (n - (N - a + 1)) % 100) (hs0 : s[2 * X]? = some (UInt8.ofNat (48 + X / 10))) (hs1 : s[2 * X + 1]? = some (UInt8.ofNat (48 + X % 10)))
  (k : ∀ w1 c1,QZ w1 g c1 T → Fm cells o n u (N - (a + 1)) c1 → w1.heap.size = w.heap.size → Ext (· = g) w w1 → K w1) :
  VR (.int .i64 (N : Int)) (.int .i64 (a : Int)) fun v1 => VR (.int .i64 (N : Int)) (.int .i64 ((a + 1 : Nat) : Int)) fun v2 => ZU (.int .u32 ((2 * X : Nat) : Int)) (.int .u32 1) fun v3 => V4 (.string s) v3 fun c1 => V4 (.string s) (.int .u32 ((2 * X : Nat) : Int)) fun c0 =>
   Zb (.slice (some ⟨g,o,none⟩) n cap) v1 1 fun p1 => Z6 p1 fun ad1 => Uw w ad1 c1 fun w1 => Zb (.slice (some ⟨g,o,none⟩) n cap) v2 1 fun p2 => Z6 p2 fun ad2 => Uw w1 ad2 c0 K:=by
 have h2:=h.le
 have hXl : X < 100:=by rw [hX]; exact Nat.mod_lt _ (by omega)
 refine xi (r:=((N - a : Nat) : Int)) (by rw [QQ (by omega)]; omega) ?_
 refine xi (r:=((N - (a + 1) : Nat) : Int)) (by rw [QQ (by omega)]; omega) ?_
 refine xi (r:=((2 * X + 1 : Nat) : Int)) (by rw [show ((2 * X : Nat) : Int) + 1 = ((2 * X + 1 : Nat) : Int) by omega]; exact Vv (by omega)) ?_
 refine Q6J (2 * X + 1) _ rfl hs1 ?_
 refine Q6J (2 * X) _ rfl hs0 ?_
 refine Qnt hb h rfl ?_ fun w1 c1 hb1 h1 hz1 he1 => ?_
 · congr 3
   rw [hX,show n - (N - a) - 1 = n - (N - a + 1) by omega]
   omega
 · have h1' : Fm cells o n u (N - (a + 1) + 1) c1:=by rw [show N - (a + 1) + 1 = N - a by omega]; exact h1
   refine Qnt hb1 h1' rfl ?_ fun w2 c2 hb2 h2 hz2 he2 => k w2 c2 hb2 h2 (by omega) (he1.QI he2)
   congr 3
   rw [hX,show n - (N - (a + 1)) - 1 = n - (N - a + 1) + 1 by omega,Nat.pow_succ,← Nat.div_div_eq_div_mul]
   omega
set_option maxRecDepth 100000 in
theorem QsT (hb : QZ w g cells T) (hfit : o + n ≤ cells.length) (hn : n ≤ 20) (hn1 : 1 ≤ n) (hu : u < 10 ^ n) (hu64 : u < 18446744073709551616) {cap : Nat} : Q6 P Kw [.slice (some ⟨g,o,none⟩) n cap,.int .u64 u] w fun r w' =>
  QZ w' g (cells.take o ++ ((Q2a n u).map bv ++ cells.drop (o + n))) T ∧ w'.heap.size = w.heap.size ∧ Ext (· = g) w w':=by
 refine ND ?_
 show Jn [.int .i64 n,_,_,_,_,_,_,_,_] w _
 refine JN (fun nn vs w' => ∃ (N U : Nat) (c : List Value) (x1 x2 x3 x4 x5 x6 x7 : Value),vs = [.int .i64 N,.int .u64 U,x1,x2,x3,x4,x5,x6,x7] ∧ nn = N ∧ QZ w' g c T ∧ Fm cells o n u N c ∧ U = u / 10 ^ (n - N) ∧ w'.heap.size = w.heap.size ∧ Ext (· = g) w w') n
  ⟨n,u,cells,_,_,_,_,_,_,_,rfl,rfl,hb,Fm.start hfit,by simp,rfl,Ext.refl _ _⟩ ?_
 rintro nn vs gg w1 ⟨N,U,c,x1,x2,x3,x4,x5,x6,x7,rfl,hnn,hb1,hf,hU,hz1,hE1⟩
 have hNn:=hf.le
 have hUu : U ≤ u:=by rw [hU]; exact Nat.div_le_self _ _
 have step : ∀ j m : Nat,m = n - N + j → u / 10 ^ m = U / 10 ^ j:=fun j m hm => by rw [hm,hU,Nat.div_div_eq_div_mul,← Nat.pow_add]
 refine ZF (fun hge => ?_) fun hlt => ?_
 · refine QaR (a:=U) (b:=100000000) (by omega) ?_
   refine xi (r:=((U % 100000000 : Nat) : Int)) (Vv (by omega)) ?_
   refine QaS (a:=U) (b:=100000000) (by omega) (G5 (by omega)) ?_
   refine QaS (a:=U % 100000000) (b:=10000) (by omega) (Vv (by omega)) ?_
   refine QaR (a:=U % 100000000) (b:=10000) (by omega) ?_
   refine QaS (a:=U % 100000000 % 10000) (b:=100) (by omega) (Vv (by omega)) ?_
   refine xi (r:=((2 * (U / 100 % 100) : Nat) : Int)) (by rw [show ((U % 100000000 % 10000 / 100 : Nat) : Int) * 2 = ((2 * (U / 100 % 100) : Nat) : Int) by omega]; exact Vv (by omega)) ?_
   refine QaR (a:=U % 100000000 % 10000) (b:=100) (by omega) ?_
   refine xi (r:=((2 * (U % 100) : Nat) : Int)) (by rw [show ((U % 100000000 % 10000 % 100 : Nat) : Int) * 2 = ((2 * (U % 100) : Nat) : Int) by omega]; exact Vv (by omega)) ?_
   refine QaS (a:=U % 100000000 / 10000) (b:=100) (by omega) (Vv (by omega)) ?_
   refine xi (r:=((2 * (U / 1000000 % 100) : Nat) : Int)) (by rw [show ((U % 100000000 / 10000 / 100 : Nat) : Int) * 2 = ((2 * (U / 1000000 % 100) : Nat) : Int) by omega]; exact Vv (by omega)) ?_
   refine QaR (a:=U % 100000000 / 10000) (b:=100) (by omega) ?_
   refine xi (r:=((2 * (U / 10000 % 100) : Nat) : Int)) (by rw [show ((U % 100000000 / 10000 % 100 : Nat) : Int) * 2 = ((2 * (U / 10000 % 100) : Nat) : Int) by omega]; exact Vv (by omega)) ?_
   have sm:=fun X (h : X < 100) => smalls ⟨X,h⟩
   refine OY (N:=N) (a:=1) (X:=U % 100) hb1.drew (by rw [show N - 1 + 1 = N by omega]; exact hf) (by omega) (by omega) (by rw [step 0 _ (by omega)]; simp) (sm _ (by omega)).1 (sm _ (by omega)).2 fun w2 c2 hb2 hf2 hz2 he2 => ?_
   refine OY (N:=N) (a:=3) (X:=U / 100 % 100) hb2.drew (by rw [show N - 3 + 1 = N - (1 + 1) by omega]; exact hf2) (by omega) (by omega) (by rw [step 2 _ (by omega)]) (sm _ (by omega)).1 (sm _ (by omega)).2 fun w3 c3 hb3 hf3 hz3 QE => ?_
   refine OY (N:=N) (a:=5) (X:=U / 10000 % 100) hb3.drew (by rw [show N - 5 + 1 = N - (3 + 1) by omega]; exact hf3) (by omega) (by omega) (by rw [step 4 _ (by omega)]) (sm _ (by omega)).1 (sm _ (by omega)).2 fun w4 c4 hb4 hf4 Ro Zl => ?_
   refine OY (N:=N) (a:=7) (X:=U / 1000000 % 100) hb4.drew (by rw [show N - 7 + 1 = N - (5 + 1) by omega]; exact hf4) (by omega) (by omega) (by rw [step 6 _ (by omega)]) (sm _ (by omega)).1 (sm _ (by omega)).2 fun w5 c5 hb5 hf5 hz5 ZR => ?_
   refine xi (r:=((N - 8 : Nat) : Int)) (by rw [QQ (by omega)]; omega) ?_
   have z2 : w2.heap.size = w1.heap.size:=hz2
   have z3 : w3.heap.size = w2.heap.size:=hz3
   have z4 : w4.heap.size = w3.heap.size:=Ro
   have z5 : w5.heap.size = w4.heap.size:=hz5
   exact JP (N - 8) (by omega) ⟨N - 8,U / 100000000,c5,_,_,_,_,_,_,_,rfl,rfl,hb5,hf5,by rw [step 8 _ (by omega)],by omega,(((hE1.QI he2.KP).QI QE.KP).QI Zl.KP).QI ZR.KP⟩
 · have hUl : U < 10 ^ N:=by
    rw [hU,Nat.div_lt_iff_lt_mul (Nat.pow_pos (by omega)),← Nat.pow_add,show N + (n - N) = n by omega]
    exact hu
   have hN8 : N ≤ 7:=by omega
   have hU7 : U < 10000000:=Nat.lt_of_lt_of_le hUl (show 10 ^ N ≤ 10 ^ 7 from Nat.pow_le_pow_right (by omega) hN8)
   refine xi (r:=((U : Nat) : Int)) (Vv (by omega)) ?_
   have sm:=fun X (h : X < 100) => smalls ⟨X,h⟩
   refine xj (fun vs w' => ∃ (N' U' : Nat) (c' : List Value) (y1 y2 y3 : Value),vs = [y1,.int .u32 U',y2,y3,.int .i64 N'] ∧ QZ w' g c' T ∧ Fm cells o n u N' c' ∧ U' = u / 10 ^ (n - N') ∧ U' < 10000000 ∧ N' ≤ 3 ∧ U' < 10 ^ N' ∧ w'.heap.size = w.heap.size ∧ Ext (· = g) w w') ?_ ?_
   · refine ZF (fun h4 => ?_) fun h4 => ⟨N,U,c,_,_,_,rfl,hb1,hf,hU,hU7,by omega,hUl,hz1,hE1⟩
     refine QaR (a:=U) (b:=10000) (by omega) ?_
     refine QaS (a:=U) (b:=10000) (by omega) (Vv (by omega)) ?_
     refine QaS (a:=U % 10000) (b:=100) (by omega) (Vv (by omega)) ?_
     refine xi (r:=((2 * (U / 100 % 100) : Nat) : Int)) (by rw [show ((U % 10000 / 100 : Nat) : Int) * 2 = ((2 * (U / 100 % 100) : Nat) : Int) by omega]; exact Vv (by omega)) ?_
     refine QaR (a:=U % 10000) (b:=100) (by omega) ?_
     refine xi (r:=((2 * (U % 100) : Nat) : Int)) (by rw [show ((U % 10000 % 100 : Nat) : Int) * 2 = ((2 * (U % 100) : Nat) : Int) by omega]; exact Vv (by omega)) ?_
     refine OY (N:=N) (a:=1) (X:=U % 100) hb1.drew (by rw [show N - 1 + 1 = N by omega]; exact hf) (by omega) (by omega) (by rw [step 0 _ (by omega)]; simp) (sm _ (by omega)).1 (sm _ (by omega)).2 fun w2 c2 hb2 hf2 hz2 he2 => ?_
     refine OY (N:=N) (a:=3) (X:=U / 100 % 100) hb2.drew (by rw [show N - 3 + 1 = N - (1 + 1) by omega]; exact hf2) (by omega) (by omega) (by rw [step 2 _ (by omega)]) (sm _ (by omega)).1 (sm _ (by omega)).2 fun w3 c3 hb3 hf3 hz3 QE => ?_
     refine xi (r:=((N - 4 : Nat) : Int)) (by rw [QQ (by omega)]; omega) ?_
     have z2 : w2.heap.size = w1.heap.size:=hz2
     have z3 : w3.heap.size = w2.heap.size:=hz3
     refine ⟨N - 4,U / 10000,c3,_,_,_,rfl,hb3,hf3,by rw [step 4 _ (by omega)],by omega,by omega,?_,by omega,(hE1.QI he2.KP).QI QE.KP⟩
     rw [Nat.div_lt_iff_lt_mul (by omega)]
     have : 10 ^ (N - 4) * 10000 = 10 ^ N:=by rw [show (10000 : Nat) = 10 ^ 4 by rfl,← Nat.pow_add,show N - 4 + 4 = N by omega]
     rw [this]; exact hUl
   · rintro vs gg w2 ⟨N2,U2,c2,y1,y2,y3,rfl,hb2,hf2,hU2,hU27,hN3,QAA,hz2,hE2⟩
     have step2 : ∀ j m : Nat,m = n - N2 + j → u / 10 ^ m = U2 / 10 ^ j:=fun j m hm => by rw [hm,hU2,Nat.div_div_eq_div_mul,← Nat.pow_add]
     refine xj (fun vs w' => ∃ (N' U' : Nat) (c' : List Value) (y1 : Value),vs = [y1,.int .u32 U',.int .i64 N'] ∧ QZ w' g c' T ∧ Fm cells o n u N' c' ∧ U' = u / 10 ^ (n - N') ∧ N' ≤ 1 ∧ U' < 10 ^ N' ∧ w'.heap.size = w.heap.size ∧ Ext (· = g) w w') ?_ ?_
     · refine ZF (fun h4 => ?_) fun h4 => ⟨N2,U2,c2,_,rfl,hb2,hf2,hU2,by omega,QAA,hz2,hE2⟩
       have:=hf2.le
       refine QaR (a:=U2) (b:=100) (by omega) ?_
       refine xi (r:=((2 * (U2 % 100) : Nat) : Int)) (by rw [show ((U2 % 100 : Nat) : Int) * 2 = ((2 * (U2 % 100) : Nat) : Int) by omega]; exact Vv (by omega)) ?_
       refine QaS (a:=U2) (b:=100) (by omega) (Vv (by omega)) ?_
       refine OY (N:=N2) (a:=1) (X:=U2 % 100) hb2.drew (by rw [show N2 - 1 + 1 = N2 by omega]; exact hf2) (by omega) (by omega) (by rw [step2 0 _ (by omega)]; simp) (sm _ (by omega)).1 (sm _ (by omega)).2 fun w3 c3 hb3 hf3 hz3 QE => ?_
       refine xi (r:=((N2 - 2 : Nat) : Int)) (by rw [QQ (by omega)]; omega) ?_
       have z3 : w3.heap.size = w2.heap.size:=hz3
       refine ⟨N2 - 2,U2 / 100,c3,_,rfl,hb3,hf3,by rw [step2 2 _ (by omega)],by omega,?_,by omega,hE2.QI QE.KP⟩
       rw [Nat.div_lt_iff_lt_mul (by omega)]
       have : 10 ^ (N2 - 2) * 100 = 10 ^ N2:=by rw [show (100 : Nat) = 10 ^ 2 by rfl,← Nat.pow_add,show N2 - 2 + 2 = N2 by omega]
       rw [this]; exact QAA
     · rintro vs gg w3 ⟨N3,U3,c3,y1,rfl,hb3,hf3,hU3,hN31,hU3l,hz3,JD⟩
       refine ZF (fun h1 => ?_) fun h1 => ?_
       · have hN1 : N3 = 1:=by omega
         subst hN1
         have hU10 : U3 < 10:=by simpa using hU3l
         have:=hf3.le
         refine xi (r:=((48 + U3 : Nat) : Int)) (by rw [show (48 : Int) + (U3 : Int) = ((48 + U3 : Nat) : Int) by omega]; exact Vv (by omega)) ?_
         refine xi (r:=((48 + U3 : Nat) : Int)) (Rv (by omega)) ?_
         refine Qnt hb3 hf3 rfl ?_ fun w4 c4 hb4 hf4 Ro Zl => ⟨?_,by omega,JD.QI Zl⟩
         · rw [show n - 0 - 1 = n - 1 by omega,← hU3,Nat.mod_eq_of_lt hU10]
           have : (UInt8.ofNat (48 + U3)).toNat = 48 + U3:=by simp; omega
           show _ = Value.int .u8 ((UInt8.ofNat (48 + U3)).toNat : Int)
           rw [this]
         · rw [← hf4.done]; exact hb4
       · have hN0 : N3 = 0:=by omega
         subst hN0
         exact ⟨by rw [← hf3.done]; exact hb3,hz3,JD⟩
theorem QnH {nA size : Nat} {a : Addr} {kd : IntKind} {i : Int} {K : Value → Prop} (h : Nat) (hi : i = (h : Int)) (hh : h ≤ nA) (h0 : nA ≠ 0) (k : K (.slice (some (a.add (0 * size))) h nA)) : Cs nA size (.pointer (some a)) none (some (.int kd i)) none K:=by
 refine Q9Q h hi hh ?_
 rw [if_neg h0]
 exact k
theorem QdX {u : Nat} (hu : u < 18446744073709551616) : u < 10 ^ (Xb u).length:=by
 have key : ∀ d u,u < 10 ^ (d + 1) → u < 10 ^ (Xb u).length:=by
  intro d
  induction d with
  | zero => intro u h; rw [Xz (by simpa using h)]; simpa using h
  | succ d ih =>
    intro u h
    by_cases e : u < 10
    · rw [Xz e]; simpa using e
    · rw [EF e,List.length_append]
      have:=ih (u / 10) (by rw [Nat.pow_succ] at h; rwa [Nat.div_lt_iff_lt_mul (by omega)])
      rw [Nat.div_lt_iff_lt_mul (by omega)] at this
      simpa [Nat.pow_succ] using this
 exact key 19 u (by omega)
theorem QdZ (u : Nat) : 1 ≤ (Xb u).length:=by
 by_cases e : u < 10
 · rw [Xz e]; simp
 · rw [EF e]; simp
variable [Floor]
set_option maxRecDepth 100000 in
theorem QbX (ht : Tab w) {u : Nat} (hu : u < 18446744073709551616) : Q6 P UL [.int .u64 u,.int .i64 10] w fun r w' => r = str (Xb u) ∧ Ext No w w':=by
 refine SQ ?_
 have : Q6 P U7 [.int .u64 u,.int .i64 10] w fun r w' => r = str (Xb u) ∧ Ext No w w':=by
  refine Rj ?_
  refine Qr rfl ?_
  refine ZF (fun h => ?_) fun h => ?_
  · refine xi (r:=(u : Int)) (QQ (by omega)) ?_
    refine (QhU (by omega)).mono ?_
    rintro r w' ⟨rfl,rfl⟩
    exact ⟨rfl,Ext.refl _ _⟩
  · have hl:=A9 u hu
    have hd:=QdX hu
    have hp:=QdZ u
    show Qs w (List.replicate 24 (bv 0)) Tj _
    refine Qz fun b w1 hb hblk hz he => ?_
    have ht1 : Tab w1:=fun i hi => by
     have:=ht i hi
     have hc : w1.cell? ⟨QH,i,none⟩ = w.cell? ⟨QH,i,none⟩:=by
      have hlt : QH < w.heap.size:=by
       rcases Nat.lt_or_ge QH w.heap.size with h | h
       · exact h
       · simp [World.cell?,Array.getElem?_eq_none h] at this
      simp only [World.cell?]
      rw [he.same _ hlt fun h => h]
     rw [hc,this]
    refine (Q5k ht1 (by omega) hu).mono ?_
    rintro r w2 ⟨rfl,rfl⟩
    refine QnH (Xb u).length rfl (by omega) (by omega) ?_
    show Q6 P Kw [.slice (some ⟨b,0,none⟩) (Xb u).length 24,.int .u64 u] w2 _
    refine (QsT hblk (by simp; omega) hl hp hd hu).mono ?_
    rintro r w3 ⟨hb3,hz3,QE⟩
    rw [Qd8 rfl,List.take_zero,List.nil_append] at hb3
    refine QnH (Xb u).length rfl (by omega) (by omega) ?_
    have hsl:=hb3.sl (o:=0) (n:=(Xb u).length) (cap:=24) (by simp; omega) (by omega)
    rw [List.drop_zero,List.take_append_of_le_length (by simp),List.take_of_length_le (by simp)] at hsl
    exact Q2A Uq.u Qpx QcR hsl ⟨rfl,he.Z0 QE (by omega)⟩
 exact this.mono fun r w' h => h
set_option maxRecDepth 100000 in
theorem QvL (ht : Tab w) {u : Nat} (hu : u < 9223372036854775808) : Q6 P GL [.int .i64 u] w fun r w' => r = str (Xb u) ∧ Ext No w w':=by
 refine Q8l ?_
 refine Q6.mono (R:=fun r w' => r = str (Xb u) ∧ Ext No w w') (Q69 ?_) fun r w' h => h
 refine Q6.mono (R:=fun r w' => r = str (Xb u) ∧ Ext No w w') (Td ?_) fun r w' h => h
 refine Qr rfl ?_
 refine xj (fun vs w' => vs = [.bool (decide (u < 100))] ∧ w' = w) ?_ ?_
 · refine Qr (by simp) ?_
   refine ⟨?_,rfl⟩
   by_cases e : u < 100
   · rw [decide_eq_true e,decide_eq_true (by omega)]
   · rw [decide_eq_false e,decide_eq_false (by omega)]
 rintro vs g w1 ⟨rfl,rfl⟩
 refine ZF (fun h => ?_) fun h => ?_
 · refine (QhU (by omega)).mono ?_
   rintro r w' ⟨rfl,rfl⟩
   exact ⟨rfl,Ext.refl _ _⟩
 · have hu64 : u < 18446744073709551616:=by omega
   have hl:=A9 u hu64
   have hd:=QdX hu64
   have hp:=QdZ u
   show Qs w1 (List.replicate 24 (bv 0)) Tj _
   refine Qz fun b w2 hb hblk hz he => ?_
   have ht1 : Tab w2:=fun i hi => by
    have:=ht i hi
    have hc : w2.cell? ⟨QH,i,none⟩ = w1.cell? ⟨QH,i,none⟩:=by
     have hlt : QH < w1.heap.size:=by
      rcases Nat.lt_or_ge QH w1.heap.size with h | h
      · exact h
      · simp [World.cell?,Array.getElem?_eq_none h] at this
     simp only [World.cell?]
     rw [he.same _ hlt fun h => h]
    rw [hc,this]
   refine xi (r:=(u : Int)) (G5 (by omega)) ?_
   refine xj (fun vs w' => vs = [.int .u64 u] ∧ w' = w2) (Qp (by simp) ⟨rfl,rfl⟩) ?_
   rintro vs g w3 ⟨rfl,rfl⟩
   refine (Q5k ht1 (by omega) hu64).mono ?_
   rintro r w4 ⟨rfl,rfl⟩
   refine xi (r:=((1 + (Xb u).length : Nat) : Int)) (by rw [QQ (by omega)]; omega) ?_
   refine Q1S 1 (1 + (Xb u).length) rfl rfl (by omega) (by omega) ?_
   have e1 : 1 + (Xb u).length - 1 = (Xb u).length:=by omega
   rw [if_neg (by omega),e1]
   have hfm : Q6 P Kw [.slice (some ⟨b,1,none⟩) (Xb u).length 23,.int .u64 u] w4 fun r w' => QZ w' b (([bv 0] : List Value) ++ ((Xb u).map bv ++ (List.replicate 24 (bv 0)).drop (1 + (Xb u).length))) Tj ∧ w'.heap.size = w4.heap.size ∧ Ext (· = b) w4 w':=by
    have:=QsT (o:=1) (cap:=23) hblk (by simp; omega) hl hp hd hu64
    rw [Qd8 rfl] at this
    exact this
   refine hfm.mono ?_
   rintro r w5 ⟨hb3,hz3,QE⟩
   refine Qp (by simp) ?_
   refine xi (r:=((1 + (Xb u).length : Nat) : Int)) (by rw [QQ (by omega)]; omega) ?_
   refine Q1S 1 (1 + (Xb u).length) rfl rfl (by omega) (by omega) ?_
   rw [if_neg (by omega),e1]
   have hsl:=hb3.sl (o:=1) (n:=(Xb u).length) (cap:=23) (by simp; omega) (by omega)
   rw [show (([bv 0] : List Value) ++ ((Xb u).map bv ++ (List.replicate 24 (bv 0)).drop (1 + (Xb u).length))).drop 1 = (Xb u).map bv ++ (List.replicate 24 (bv 0)).drop (1 + (Xb u).length) by rfl,List.take_append_of_le_length (by simp),List.take_of_length_le (by simp)] at hsl
   exact Q2A Uq.u Qpx QcR hsl ⟨rfl,he.Z0 QE (by omega)⟩
end
end Go.Proofs.YtbnhggfiembejaaGreatDoor
end
end
section
namespace Go.Proofs.YtbnhggfiembejaaGreatDoor
open Go Go.RowKit X
set_option linter.unusedSimpArgs false
set_option linter.unusedVariables false
set_option linter.unusedSectionVars false
theorem Ec (kids : UInt8 → T) : (dom fun c => (kids c).er.opt) = dom (ptrs kids):=Q48 fun c => T.WQ (kids c)
theorem QqE (kids : UInt8 → T) : Y2 (fun c => (kids c).er) = cnt (ptrs kids):=by
 show (dom fun c => (kids c).er.opt).length = _
 rw [Ec]; rfl
abbrev nxP (m : UInt8 → Option Addr) : List UInt8 → Value
 | [] => .pointer none
 | c :: _ => .pointer (m c)
abbrev nxB : List UInt8 → Value
 | [] => .int .u8 0
 | c :: _ => bv c
theorem YZ {m : UInt8 → Option Addr} {i : Nat} {l : List UInt8} (h : Wd m i = l.head?) : Vx m i = .tuple #[nxB l,nxP m l]:=by
 unfold Vx
 rw [h]
 cases l <;> rfl
theorem Tab.ext {X : Nat → Prop} {w w' : World} (h : Tab w) (e : Ext X w w') (hx : ¬ X QH) : Tab w':=fun i hi => by
 have:=h i hi
 have hlt : QH < w.heap.size:=by
  rcases Nat.lt_or_ge QH w.heap.size with h | h
  · exact h
  · simp [World.cell?,Array.getElem?_eq_none h] at this
 have hc : w'.cell? ⟨QH,i,none⟩ = w.cell? ⟨QH,i,none⟩:=by
  simp only [World.cell?]
  rw [e.same _ hlt hx]
 rw [hc,this]
theorem Tab.Q4 {w w' : World} (h : Tab w) (e : Ext No w w') : Tab w':=h.ext e fun h => h
theorem X.Ext.big {w0 w w' : World} {B : Nat} (h : Ext No w0 w) (hB : w0.heap.size ≤ B) (e : Ext (B ≤ ·) w w') : Ext No w0 w':=h.trans e fun b hb hx => absurd (show B ≤ b from hx) (by omega)
theorem T.Q6Z {a ow : Nat} {part : Key} {val : Option Nat} {ks : List Nat} {kids : UInt8 → T} : (T.node a ow part val ks kids).er.shape = if cnt (ptrs kids) = 0 then 76 :: (Da part ++ Ew val) else
   Xb (Kl (cnt (ptrs kids))) ++ 60 :: (Da part ++ (Ew val ++ (((dom (ptrs kids)).flatMap fun c => 58 :: (Bb c ++ (kids c).er.shape)) ++ [62]))):=by
 show E.shape (.node part val fun c => (kids c).er) = _
 rw [E.shape,QqE,Ec]
theorem QiW (n : Nat) (h : n ≤ 256) : 4 ≤ Kl n ∧ Kl n ≤ 256:=by
 unfold Kl
 repeat' split
 all_goals omega
variable [Floor]
section
variable {w0 : World} {B b : Nat}
theorem QqI (hT : Tab w0) (hB : w0.heap.size ≤ B) : ∀ (t : T) {w : World} {bs : List UInt8},Tree w0 t → t.ZJ → Ext No w0 w → Bld w B b bs → bs.length + t.er.shape.length ≤ 70368744177664 →
  Q6 P Eo [.pointer (some ⟨b,0,none⟩),t.v] w fun r w' => Bld w' B b (bs ++ t.er.shape) ∧ Ext No w0 w':=by
 intro t
 induction t with
 | nil =>
   intro w bs ht hl he hb hn
   refine Q0R ?_
   refine Qr rfl ?_
   refine (VN (s:=[46]) hb (by simp; omega)).mono ?_
   rintro r w1 ⟨hb1,he1⟩
   exact ⟨hb1,he.big hB he1⟩
 | node na ow part val ks kids ih =>
   intro w bs ht hl he hb hn
   have hcl:=BR (ptrs kids)
   obtain ⟨hl1,hl2⟩:=hl
   rw [T.Q6Z] at hn ⊢
   have hkind : (T.node na ow part val ks kids).kind = if cnt (ptrs kids) = 0 then 1 else Kl (cnt (ptrs kids)):=by
    show Yx ks (ptrs kids) = _
    unfold Yx
    by_cases e : ks = []
    · rw [if_pos e,if_pos (hl1.1 e)]
    · rw [if_neg e,if_neg fun h => e (hl1.2 h)]
   have hpl:=ht.1.short
   have hkp:=QiW _ hcl
   refine Q0R ?_
   refine Qp rfl ?_
   refine (Cj (ht.Q4 he)).mono ?_
   rintro r w1 ⟨rfl,rfl⟩
   refine xj (fun vs w' => Bld w' B b (bs ++ if cnt (ptrs kids) = 0 then [76] else Xb (Kl (cnt (ptrs kids))) ++ [60]) ∧ Ext No w0 w') ?_ ?_
   · refine (Hg (ht.Q4 he)).mono ?_
     rintro r w2 ⟨rfl,rfl⟩
     by_cases hc : cnt (ptrs kids) = 0
     · rw [if_pos hc] at hkind hn
       refine Qr (by rw [hkind]; rfl) ?_
       refine (VN (s:=[76]) hb (by simp at hn ⊢; omega)).mono ?_
       rintro r w3 ⟨hb3,QE⟩
       rw [if_pos hc]
       exact ⟨hb3,he.big hB QE⟩
     · rw [if_neg hc] at hkind hn
       refine Qp (by rw [hkind]; simp; omega) ?_
       refine (Hg (ht.Q4 he)).mono ?_
       rintro r w3 ⟨rfl,rfl⟩
       rw [hkind]
       refine (QvL (hT.Q4 he) (by omega)).mono ?_
       rintro r w4 ⟨rfl,Zl⟩
       have hdl:=A9 (Kl (cnt (ptrs kids))) (by omega)
       refine Ru (l:=Xb (Kl (cnt (ptrs kids)))) (m:=[60]) (by simp; omega) ?_
       have hb4 : Bld w4 B b bs:=⟨hb.ge,by have:=Zl.size; have:=hb.le; omega,by
        obtain ⟨p,v,h1,h2,h3,h4⟩:=hb.at_
        exact ⟨p,v,h1.ext Zl fun h => h,h2,h3.Q4 Zl,h4⟩⟩
       refine (VN hb4 (by simp at hn ⊢; omega)).mono ?_
       rintro r w5 ⟨hb5,ZR⟩
       rw [if_neg hc]
       exact ⟨hb5,(he.Q0 Zl).big hB ZR⟩
   rintro vs g w2 ⟨hb2,he2⟩
   generalize hhd : (if cnt (ptrs kids) = 0 then [76] else Xb (Kl (cnt (ptrs kids))) ++ [60]) = hd at hb2
   refine (XA (ht.Q4 he2)).mono ?_
   rintro pv w3 ⟨hp3,QE⟩
   have hp3 : Bs w3 pv part:=hp3
   refine (Qo5 hp3 (by omega)).mono ?_
   rintro r w4 ⟨rfl,Zl⟩
   have U9:=(he2.Q0 QE).Q0 Zl
   have Qdt : ∀ {w w' : World} {cs : List UInt8},Bld w B b cs → Ext No w w' → Bld w' B b cs:=fun {w w' cs} hb he => ⟨hb.ge,by have:=he.size; have:=hb.le; omega,by
    obtain ⟨p,v,h1,h2,h3,h4⟩:=hb.at_
    exact ⟨p,v,h1.ext he fun h => h,h2,h3.Q4 he,h4⟩⟩
   have hhl : hd.length ≤ 21:=by
    rw [← hhd]; split
    · simp
    · have:=A9 (Kl (cnt (ptrs kids))) (by omega)
      simp; omega
   have hvl : (Ew val).length ≤ 21:=by
    cases val with
    | none => simp [Ew]
    | some v =>
      have:=A9 v (ht.1.v64 v rfl)
      simp [Ew]; omega
   have hxl:=ED part
   have hbsl : bs.length ≤ 70368744177664:=by omega
   refine (VN (Qdt hb2 (QE.Q0 Zl)) (by simp; omega)).mono ?_
   rintro r w5 ⟨hb5,ZR⟩
   have WX:=U9.big hB ZR
   refine xj (fun vs w' => Bld w' B b (bs ++ hd ++ Da part ++ Ew val) ∧ Ext No w0 w') ?_ ?_
   · cases val with
     | none => exact Qp rfl ⟨by simpa [Ew] using hb5,WX⟩
     | some v =>
       refine Qr rfl ?_
       have hv:=ht.1.v64 v rfl
       refine (QbX (hT.Q4 WX) hv).mono ?_
       rintro r w6 ⟨rfl,Ke⟩
       have hdl:=A9 v hv
       refine Ru (l:=[61]) (m:=Xb v) (by simp; omega) ?_
       refine (VN (Qdt hb5 Ke) (by simp; omega)).mono ?_
       rintro r w7 ⟨hb7,Yy⟩
       exact ⟨hb7,(WX.Q0 Ke).big hB Yy⟩
   rintro vs g w6 ⟨hb6,MC⟩
   refine (Hg (ht.Q4 MC)).mono ?_
   rintro r w7 ⟨rfl,rfl⟩
   by_cases hc : cnt (ptrs kids) = 0
   · rw [if_pos hc] at hkind hhd
     refine Qr (by rw [hkind]; rfl) ⟨?_,MC⟩
     rw [if_pos hc]
     subst hhd
     simpa using hb6
   · rw [if_neg hc] at hkind hhd hn
     refine Qp (by rw [hkind]; simp; omega) ?_
     rw [if_neg hc]
     refine (WS (ht.Q4 MC) (i:=0) (by omega)).mono ?_
     rintro r w8 ⟨rfl,KJ⟩
     have Qbj : Vx (ptrs (T.node na ow part val ks kids).kid) 0 = .tuple #[nxB (dom (ptrs kids)),nxP (ptrs kids) (dom (ptrs kids))]:=YZ (VI _)
     rw [Qbj]
     have hall : bs.length + (hd ++ Da part ++ Ew val).length + ((dom (ptrs kids)).flatMap fun c => 58 :: (Bb c ++ (kids c).er.shape)).length + 1 ≤ 70368744177664:=by
      subst hhd
      simp at hn ⊢
      omega
     refine JN (fun nn vs w' => ∃ (d rest : List UInt8),vs = [nxP (ptrs kids) rest,nxB rest] ∧ nn = rest.length ∧ dom (ptrs kids) = d ++ rest ∧ Bld w' B b (bs ++ hd ++ Da part ++ Ew val ++ d.flatMap fun c => 58 :: (Bb c ++ (kids c).er.shape)) ∧ Ext No w0 w') (dom (ptrs kids)).length
      ⟨[],_,rfl,rfl,rfl,by simpa using Qdt hb6 KJ,MC.Q0 KJ⟩ ?_
     rintro nn vs g w9 ⟨d,rest,rfl,rfl,hdr,hb9,OA⟩
     unfold Ow
     cases rest with
     | nil =>
       rw [List.append_nil] at hdr
       have hn0 : ∀ K : Value → Prop,K (.bool false) → Y1 P w9 (nxP (ptrs kids) []) (.pointer none) K:=fun K k => k
       refine hn0 _ ?_
       refine Qp rfl ?_
       have hbl : (bs ++ hd ++ Da part ++ Ew val ++ d.flatMap fun c => 58 :: (Bb c ++ (kids c).er.shape)).length + 1 ≤ 70368744177664:=by
        rw [← hdr]
        simp only [List.length_append] at hall ⊢
        omega
       refine (VN (s:=[62]) hb9 (by simp at hbl ⊢; omega)).mono ?_
       rintro r Dn ⟨Q9p,J9⟩
       refine ⟨?_,OA.big hB J9⟩
       subst hhd
       rw [hdr]
       simpa using Q9p
     | cons c rest =>
       have hcd : c ∈ dom (ptrs kids):=by rw [hdr]; simp
       have hcs : (kids c).ptr.isSome:=Zd.1 hcd
       obtain ⟨ka,hka⟩:=Option.isSome_iff_exists.1 hcs
       have hbl : (bs ++ hd ++ Da part ++ Ew val ++ d.flatMap fun c => 58 :: (Bb c ++ (kids c).er.shape)).length + 3 + (kids c).er.shape.length ≤ 70368744177664:=by
        have : ((dom (ptrs kids)).flatMap fun c => 58 :: (Bb c ++ (kids c).er.shape)).length = (d.flatMap fun c => 58 :: (Bb c ++ (kids c).er.shape)).length + (3 + (kids c).er.shape.length) + (rest.flatMap fun c => 58 :: (Bb c ++ (kids c).er.shape)).length:=by
         rw [hdr]
         simp [Bb]
         omega
        rw [this] at hall
        simp only [List.length_append] at hall ⊢
        omega
       have hne : ∀ K : Value → Prop,K (.bool true) → Y1 P w9 (nxP (ptrs kids) (c :: rest)) (.pointer none) K:=fun K k => by
        show Y1 P w9 (.pointer (kids c).ptr) (.pointer none) K
        rw [hka]; exact k
       refine hne _ ?_
       refine Qr rfl ?_
       show Qs w9 [bv c] Qm _
       refine Qz fun a Dn ha hblk hz J9 => ?_
       have hbs : Bs Dn (.slice (some ⟨a,0,none⟩) 1 1) [c]:=by
        have:=hblk.sl (o:=0) (n:=1) (cap:=1) (by simp) (Nat.le_refl _)
        exact Bs.of (by simpa using this)
       refine (Qo5 hbs (by simp)).mono ?_
       rintro r AL ⟨rfl,K9⟩
       have hx1 : Da [c] = Bb c:=by simp [Da]
       rw [hx1]
       refine Ru (l:=[58]) (m:=Bb c) (by simp [Bb]) ?_
       refine (VN (Qdt hb9 (J9.Q0 K9)) (by simp [Bb] at hbl ⊢; omega)).mono ?_
       rintro r Rw ⟨Qjh,JX⟩
       have Sm:=((OA.Q0 J9).Q0 K9).big hB JX
       refine (ih c (ht.2 c) (hl2 c) Sm Qjh (by simp [Bb] at hbl ⊢; omega)).mono ?_
       rintro r w13 ⟨Qna,Qqk⟩
       refine xi (r:=(c.toNat : Int)) (QQ (by have:=MV c; omega)) ?_
       refine xi (r:=((c.toNat + 1 : Nat) : Int)) (by have:=MV c; rw [QQ (by omega)]; omega) ?_
       refine (WS (ht.Q4 Qqk) (i:=c.toNat + 1) (by have:=MV c; omega)).mono ?_
       rintro r w14 ⟨rfl,UZ⟩
       have hnx : Vx (ptrs (T.node na ow part val ks kids).kid) (c.toNat + 1) = .tuple #[nxB rest,nxP (ptrs kids) rest]:=YZ (UI hdr)
       rw [hnx]
       refine JP rest.length (by simp) ⟨d ++ [c],rest,rfl,rfl,by rw [hdr]; simp,?_,Qqk.Q0 UZ⟩
       have:=Qdt Qna UZ
       simpa using this
end
theorem Xt {w : World} {t : T} (hT : Tab w) (ht : Tree w t) (hl : t.ZJ) (hn : t.er.shape.length ≤ 70368744177664) : Q6 P ZB [t.v] w fun r w' => r = str t.er.shape ∧ Ext No w w':=by
 refine Q9L ?_
 refine Qz fun b w1 hb hblk hz he => ?_
 refine (QqI (B:=w.heap.size) hT (Nat.le_refl _) t ht hl he (Bld.fresh hblk (by omega)) (by simpa using hn)).mono ?_
 rintro r w2 ⟨hb2,he2⟩
 rw [List.nil_append] at hb2
 refine (Qo6 hb2 ?_).mono ?_
 · cases t with
   | nil => intro h; cases h
   | node a ow part val ks kids =>
     rw [T.Q6Z]
     split
     · intro h; cases h
     · intro h; simp at h
 · rintro r w3 ⟨rfl,QE⟩
   exact ⟨rfl,he2.big (Nat.le_refl _) QE⟩
end Go.Proofs.YtbnhggfiembejaaGreatDoor
end
