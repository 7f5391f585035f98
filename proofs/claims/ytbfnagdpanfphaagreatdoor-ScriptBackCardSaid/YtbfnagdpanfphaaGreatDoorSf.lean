/-  scripts: an operation made bare, put into the document's form and back, held against another one; what is too much.  -/
import Derived.Test.YtbfnagdpanfphaaGreatDoorSd
section
namespace Go.Proofs.YtbfnagdpanfphaaGreatDoor
open Go Go.RowKit X
set_option linter.unusedSimpArgs false
set_option linter.unusedVariables false
set_option linter.unusedSectionVars false
abbrev zOp : List Value := [.int .i64 0, .int .i64 0, .int .i64 0, .slice none 0 0, .slice none 0 0, .bool false, .int .u64 0, .int .i64 0, .bool false, .slice none 0 0, .slice none 0 0, .slice none 0 0]
theorem one_do (d : Int) : ∀ v ∈ ([.int .i64 d, .int .i64 0, .int .i64 0, .slice none 0 0, .slice none 0 0, .bool false, .int .u64 0, .int .i64 0, .bool false, .slice none 0 0, .slice none 0 0, .slice none 0 0] : List Value), v.oneCell' = true := by
  intro v hv
  simp only [List.mem_cons, List.mem_nil_iff, or_false] at hv
  rcases hv with rfl | rfl | rfl | rfl | rfl | rfl | rfl | rfl | rfl | rfl | rfl | rfl <;> rfl
theorem OpV.Near.bare {o : OpV} (h : o.Near) : (bareK o).Near := by
  unfold bareK
  dsimp only
  split
  · exact ⟨by decide, by decide, by decide, by decide, by decide, by decide, by decide, by decide, by decide, by decide, by simp [OpV.zero], by simp [OpV.zero], by simp [OpV.zero], by simp [OpV.zero], by simp [OpV.zero]⟩
  · refine ⟨h.do_, ?_, ?_, ?_, ?_, ?_, ?_, ?_, ?_, ?_, ?_, ?_, ?_, ?_, ?_⟩ <;> dsimp only <;> split
    all_goals first | exact h.a | exact h.b | exact h.n | exact h.val | exact h.key | exact h.to | exact h.bytes | exact h.prs | exact h.chg | exact h.pk | exact h.ck | exact h.kinds | exact h.v64 | exact h.c64 | decide | simp
variable [Floor]
theorem PsO.nb' {w : World} {B : Nat} {T : TypeId} {v : Value} {l : Kv} (h : PsO w B T v l) (hf : Floor.n ≤ B) (hT : T ≠ T_uint8) : NB w (fun b => v.ownBlock = some b) := fun b hb hlt => by
  obtain ⟨cells, h1, -⟩ := h
  rcases h1.2 with ⟨rfl, -⟩ | ⟨g, cap, cur, rfl, hg, hc, -⟩
  · cases hb
  · simp only [Value.ownBlock, Option.some.injEq] at hb
    subst hb
    exact ⟨by omega, cur.toList, T, ⟨hc⟩, hT⟩
theorem PsO.app' {w : World} {B : Nat} {T : TypeId} {v : Value} {l : Kv} {K : Value → World → Prop} {t ty : TypeId} {x : Value} {m : Kv} {ys : List Value} {Q : Nat → TypeId → Prop} (hT : EI P t T 2 32 (.agg #[.slice none 0 0, .int .u64 0])) (hTu : T ≠ T_uint8) (hf : Floor.n ≤ B) (hB : B ≤ w.heap.size)
    (h : PsO w B T v l) (hx : Sl w Q x 2 m.length ys) (hm : PC w m ys) (hn : l.length + m.length ≤ 1099511627776)
    (k : ∀ v' w', PsO w' B T v' (l ++ m) → Ext (fun b => v.ownBlock = some b) w w' → (∀ w0 : World, Ext No w0 w → w0.heap.size ≤ B → Ext No w0 w') → K v' w') : XRun P (Builtin.append_ #[t, t] ty #[v, x]) w K := by
  have hnb := h.nb' hf hTu
  obtain ⟨cells, h1, h2⟩ := h
  refine app_own hT h1 hB hx hm.one (by omega) (by omega) fun v' w' ho hE _ hb => k v' w' ⟨_, ?_, (h2.app hm).ext hE hnb⟩ hE fun w0 e0 h0 => e0.own h1 h0 hE
  rw [List.length_append]; exact ho
section
variable {w w' : World} {o : OpV} {cs : List Value} {v kv : Value} {k : Key} {l : Kv} {c : Chg} {lc : List Chg}
theorem Cs.ext1 {b : Nat} {cs0 : List Value} {T : TypeId} (h : Cs w v lc) (e : Ext (· = b) w w') (hb : Blk w b cs0 T) (hT : T ≠ T_uint8 ∧ T ≠ T_delta_Change ∧ T ≠ T_ref29_Change) (hf : Floor.n ≤ b) : Cs w' v lc := by
  obtain ⟨T', cells, hT', h1, h2⟩ := h
  have nb : ∀ {t : TypeId}, T ≠ t → NBT t w (· = b) := fun {t} ht c hc _ => by
    have e : c = b := hc
    subst e
    exact ⟨hf, _, _, hb, ht⟩
  refine ⟨T', cells, hT', h1.extQ e (nb ?_), h2.ext e (nb hT.1)⟩
  rcases hT' with rfl | rfl
  · exact hT.2.1
  · exact hT.2.2
theorem nbp1 {b : Nat} {cs0 : List Value} {T : TypeId} (hb : Blk w b cs0 T) (hT : T ≠ T_uint8 ∧ T ≠ T_api_Pair ∧ T ≠ T_ref01_Pair) (hf : Floor.n ≤ b) : NBP w (· = b) := by
  have nb : ∀ {t : TypeId}, T ≠ t → NBT t w (· = b) := fun {t} ht c hc _ => by
    have e : c = b := hc
    subst e
    exact ⟨hf, _, _, hb, ht⟩
  exact ⟨nb hT.1, nb hT.2.1, nb hT.2.2⟩
/-- a struct of the type of operations is written: others stay -/
theorem OpC.ext1 {b : Nat} {cs0 : List Value} (h : OpC w o cs) (e : Ext (· = b) w w') (hb : Blk w b cs0 T_artmap_Op) (hf : Floor.n ≤ b) : OpC w' o cs := by
  obtain ⟨kv, tv, pv, cv, bv', rfl, h1, h2, h3, h4, h5⟩ := h
  have nb := chg_nb hb (by decide) hf
  exact ⟨_, _, _, _, _, rfl, h1.ext e nb, h2.ext e nb, h3.ext e (nbp1 hb (by decide) hf), h4.ext1 e hb (by decide) hf, h5.ext e nb⟩
theorem X.Sl.extI {b i sz n : Nat} {s : List UInt8} {T : Nat → TypeId → Prop} {cells : List Value} (h : Sl w T v sz n cells) (e : Ext (· = b) w w') (hb : It w b s i) : Sl w' T v sz n cells := h.ext e fun c cs t fz _ hc hx => by
  have hx : c = b := hx
  subst hx
  have := (show w.heap[c]? = some _ from hb).symm.trans hc
  cases this
theorem Bs.extI {b i : Nat} {s bs : List UInt8} (h : Bs w v bs) (e : Ext (· = b) w w') (hb : It w b s i) : Bs w' v bs := Sl.extI h e hb
theorem Ps.extI {b i : Nat} {s : List UInt8} (h : Ps w v l) (e : Ext (· = b) w w') (hb : It w b s i) : Ps w' v l := by
  obtain ⟨T, cells, hT, h1, h2⟩ := h
  exact ⟨T, cells, hT, h1.extI e hb, ⟨h2.len, fun i p hp => by
    obtain ⟨kv, h3, h4, h5⟩ := h2.at_ i p hp
    exact ⟨kv, h3, h4.extI e hb, h5⟩⟩⟩
theorem Cs.extI {b i : Nat} {s : List UInt8} (h : Cs w v lc) (e : Ext (· = b) w w') (hb : It w b s i) : Cs w' v lc := by
  obtain ⟨T, cells, hT, h1, h2⟩ := h
  exact ⟨T, cells, hT, h1.extI e hb, ⟨h2.len, fun i p hp => by
    obtain ⟨kv, h3, h4, h5⟩ := h2.at_ i p hp
    exact ⟨kv, h3, h4.extI e hb, h5⟩⟩⟩
theorem OpC.extI {b i : Nat} {s : List UInt8} (h : OpC w o cs) (e : Ext (· = b) w w') (hb : It w b s i) : OpC w' o cs := by
  obtain ⟨kv, tv, pv, cv, bv', rfl, h1, h2, h3, h4, h5⟩ := h
  exact ⟨_, _, _, _, _, rfl, h1.extI e hb, h2.extI e hb, h3.extI e hb, h4.extI e hb, h5.extI e hb⟩
/-! ### copies -/
set_option maxRecDepth 100000 in
theorem c_copyPairs (hf : Floor.n ≤ w.heap.size) (h : Ps w v l) (hl : l.length ≤ 60) (hk : ∀ p ∈ l, p.1.length ≤ 300) : Ret P n_script_copyPairs [v] w fun r w' => Ps w' r l ∧ Ext No w w' := by
  have hv := h.v64
  refine W_script_copyPairs ?_
  refine h.len ?_
  refine xloop (fun n vs w' => ∃ (i : Nat) (vw : Value), vs = [.int .i64 i, vw] ∧ i ≤ l.length ∧ n = l.length - i ∧ PsO w' w.heap.size T_api_Pair vw (l.take i) ∧ Ext No w w') l.length
    ⟨0, _, rfl, by omega, rfl, PsO.nil _ _ _, Ext.refl _ _⟩ ?_
  rintro n vs g w1 ⟨i, vw, rfl, hi, rfl, ho, he⟩
  refine xifD (fun hlt => ?_) fun hge => ?_
  · have hil : i < l.length := by omega
    have hmem := List.getElem_mem hil
    refine (h.extN he).var i rfl hil (T := T_api_Pair) (by kernel_rfl) fun pb w2 kv hb he2 hsz hkv => ?_
    refine hb.drew.ld (o := 0) (v := kv) rfl ?_
    refine hb.drew.ld (o := 1) (v := u64 l[i].2) rfl ?_
    refine (c_Clone (hkv.extN he2.drew) (by have := hk _ hmem; omega)).mono ?_
    rintro r w3 ⟨hr, he3⟩
    have hE3 := (he.transN he2).drew.transN he3
    refine ⟨(hb.drew.ext he3 fun h => h).cell 1, ?_⟩
    obtain ⟨ra, rc, rfl⟩ := hr.slice
    show XNew w3 [.slice ra l[i].1.length rc, u64 l[i].2] T_api_Pair _
    refine xnew fun sb w4 hsb hsblk hsz4 he4 => ?_
    have hE4 := hE3.transN he4
    have hs := hE4.size
    have hs3 := hE3.size
    refine PsO.app' (m := [(l[i].1, l[i].2)]) ei_api (by decide) hf (by omega) (((ho.extN he2.drew).extN he3).extN he4) (hsblk.sln (n := 1) rfl) (PC.sing (hr.extN he4) (hv _ hmem)) (by simp; omega) fun v' w5 ho5 hE5 hE5' => ?_
    refine xi (r := ((i + 1 : Nat) : Int)) (by rw [wrapI (by omega)]; omega) ?_
    refine xnext (l.length - (i + 1)) (by omega) ⟨i + 1, v', rfl, by omega, rfl, ?_, hE5' w hE4 (Nat.le_refl _)⟩
    rw [← List.take_append_getElem hil]
    exact ho5
  · have : i = l.length := by omega
    subst this
    rw [List.take_length] at ho
    exact ⟨ho.ps (.inl rfl), he⟩
set_option maxRecDepth 100000 in
theorem c_copyChanges (hf : Floor.n ≤ w.heap.size) (h : Cs w v lc) (hl : lc.length ≤ 60) (hk : ∀ c ∈ lc, c.key.length ≤ 300) : Ret P n_script_copyChanges [v] w fun r w' => Cs w' r lc ∧ Ext No w w' := by
  have hv := h.ok
  refine W_script_copyChanges ?_
  refine h.len ?_
  refine xloop (fun n vs w' => ∃ (i : Nat) (vw : Value), vs = [.int .i64 i, vw] ∧ i ≤ lc.length ∧ n = lc.length - i ∧ CO w' w.heap.size T_delta_Change vw (lc.take i) ∧ Ext No w w') lc.length
    ⟨0, _, rfl, by omega, rfl, CO.nil _ _ _, Ext.refl _ _⟩ ?_
  rintro n vs g w1 ⟨i, vw, rfl, hi, rfl, ho, he⟩
  refine xifD (fun hlt => ?_) fun hge => ?_
  · have hil : i < lc.length := by omega
    have hmem := List.getElem_mem hil
    refine (h.extN he).var i rfl hil (T := T_delta_Change) (by kernel_rfl) fun pb w2 kv hb he2 hsz hkv => ?_
    have hE2 := he.transN he2
    have hs1 := he.size
    refine hb.ld (o := 0) (v := kv) rfl ?_
    refine (c_Clone (hkv.extN he2) (by have := hk _ hmem; omega)).mono ?_
    rintro r w3 ⟨hr, he3⟩
    have hE3 := hE2.transN he3
    obtain ⟨ra, rc, rfl⟩ := hr.slice
    have hb3 := hb.ext he3 fun h => h
    have hpb : Floor.n ≤ pb := by omega
    refine hb3.st1 (o := 0) (by simp) rfl rfl fun w4 hb4 hz4 he4 => ?_
    have hE4 : Ext No w w4 := hE3.trans1 he4 (by omega)
    have hr4 := hr.ext he4 (chg_nb hb3 (by decide) hpb)
    refine hb4.ldA rfl ?_
    show XNew w4 [.slice ra lc[i].key.length rc, .int .i64 lc[i].kind, u64 lc[i].was, u64 lc[i].is] T_delta_Change _
    refine xnew fun sb w5 hsb hsblk hsz5 he5 => ?_
    have hE5 := hE4.transN he5
    have hs5 := hE5.size
    have ho3 : CO w4 w.heap.size T_delta_Change vw (lc.take i) := by
      obtain ⟨cells, o1, o2⟩ := (ho.extN he2).extN he3
      have hsz3 := he3.size
      refine ⟨cells, o1.ext he4 fun b hb5 e => ?_, o2.ext he4 (chg_nb hb3 (by decide) hpb)⟩
      have e : b = pb := e
      subst e
      obtain ⟨cells1, o3, -⟩ := ho
      have := (o3.ge hb5).2
      omega
    refine CO.app (m := [lc[i]]) ei_dch (by decide) hf (by omega) (ho3.extN he5) (hsblk.sln (n := 1) rfl) (CC.sing (hr4.extN he5) (hv _ hmem)) (by simp; omega) fun v' w6 ho6 _ hE6 hE6' => ?_
    refine xi (r := ((i + 1 : Nat) : Int)) (by rw [wrapI (by omega)]; omega) ?_
    refine xnext (lc.length - (i + 1)) (by omega) ⟨i + 1, v', rfl, by omega, rfl, ?_, hE6' w hE5 (Nat.le_refl _)⟩
    rw [← List.take_append_getElem hil]
    exact ho6
  · have : i = lc.length := by omega
    subst this
    rw [List.take_length] at ho
    exact ⟨ho.cs (.inl rfl), he⟩

/-- a struct of another type is written: an operation stays -/
theorem OpC.extT {b : Nat} {cs0 : List Value} {T : TypeId} (h : OpC w o cs) (e : Ext (· = b) w w') (hb : Blk w b cs0 T) (hT : T ≠ T_uint8 ∧ T ≠ T_api_Pair ∧ T ≠ T_ref01_Pair ∧ T ≠ T_delta_Change ∧ T ≠ T_ref29_Change) (hf : Floor.n ≤ b) : OpC w' o cs := by
  obtain ⟨kv, tv, pv, cv, bv', rfl, h1, h2, h3, h4, h5⟩ := h
  have nb := chg_nb hb hT.1 hf
  exact ⟨_, _, _, _, _, rfl, h1.ext e nb, h2.ext e nb, h3.ext e (nbp1 hb ⟨hT.1, hT.2.1, hT.2.2.1⟩ hf), h4.ext1 e hb ⟨hT.1, hT.2.2.2⟩ hf, h5.ext e nb⟩
/-! ### the same operation in the other types -/

set_option maxRecDepth 100000 in
theorem c_op36 (hf : Floor.n ≤ w.heap.size) (ho : OpC w o cs) (hN : o.Near) : Ret P n_law36_op [.agg cs.toArray] w fun r w' => ∃ cs', r = .agg cs'.toArray ∧ OpC w' o cs' ∧ Ext No w w' := by
  obtain ⟨kv, tv, pv, cv, bv', rfl, h1, h2, h3, h4, h5⟩ := ho
  have hv := h3.v64
  have hc := h4.ok
  have hl := hN.prs
  have hlc := hN.chg
  refine W_law36_op ?_
  show XNew w [.int .i64 o.do_, .int .i64 o.a, .int .i64 o.b, kv, tv, .bool o.opn, u64 o.val, .int .i64 o.n, .bool o.falls, pv, cv, bv'] T_ref35_Op _
  refine xnew fun ab w1 hab hblk hz1 he1 => ?_
  refine xnew fun zb w2 hzb hzblk hz2 he2 => ?_
  have hE2 := he1.transN he2
  have hs2 := hE2.size
  have hb2 := hblk.ext he2 fun h => h
  refine hb2.ld (o := 9) (v := pv) rfl ?_
  refine (h3.extN hE2).len ?_
  refine xloop (fun n vs w' => ∃ (i : Nat) (vw : Value), vs = [.int .i64 i, vw] ∧ i ≤ o.prs.length ∧ n = o.prs.length - i ∧ PsO w' w.heap.size T_api_Pair vw (o.prs.take i) ∧ Ext No w w' ∧ Ext No w2 w') o.prs.length
    ⟨0, _, rfl, by omega, rfl, PsO.nil _ _ _, hE2, Ext.refl _ _⟩ ?_
  rintro n vs g w3 ⟨i, vw, rfl, hi, rfl, ho, hE3, hE23⟩
  refine xifD (fun hlt => ?_) fun hge => ?_
  · have hil : i < o.prs.length := by omega
    have hmem := List.getElem_mem hil
    refine (h3.extN hE3).var i rfl hil (T := T_ref01_Pair) (by kernel_rfl) fun pb w4 kv hb he4 hsz hkv => ?_
    have hE4 := hE3.transN he4
    refine hb.ldA rfl ?_
    show XNew w4 [kv, u64 o.prs[i].2] T_api_Pair _
    refine xnew fun sb w5 hsb hsblk hsz5 he5 => ?_
    have hE5 := hE4.transN he5
    have hs5 := hE5.size
    refine PsO.app' (m := [(o.prs[i].1, o.prs[i].2)]) ei_api (by decide) hf (by omega) ((ho.extN he4).extN he5) (hsblk.sln (n := 1) rfl) (PC.sing ((hkv.extN he4).extN he5) (hv _ hmem)) (by simp; omega) fun v' w6 ho6 hX6 hE6 => ?_
    refine xi (r := ((i + 1 : Nat) : Int)) (by rw [wrapI (by omega)]; omega) ?_
    have hE26 : Ext No w2 w6 := ((hE23.transN he4).transN he5).trans hX6 fun b hb hx => by
      have hx : vw.ownBlock = some b := hx
      obtain ⟨cells, o1, -⟩ := ho
      rcases o1.2 with ⟨rfl, -⟩ | ⟨g, cap, cur, rfl, hg, hgc, -⟩
      · cases hx
      · simp only [Value.ownBlock, Option.some.injEq] at hx
        subst hx
        have a1 := hb2.lt
        have a2 := hzblk.lt
        have hgc' : w2.heap[g]? = some (.cells cur T_api_Pair (0, 0)) := by rw [← hE23.same g hb fun h => h]; exact hgc
        rcases Nat.lt_or_ge g w1.heap.size with c1 | c1
        · have c2 : g = ab := by omega
          subst c2
          have := hb2.h.symm.trans hgc'
          simp at this
          exact absurd this.2 (by decide)
        · have c2 : g = zb := by omega
          subst c2
          have := hzblk.h.symm.trans hgc'
          simp at this
          exact absurd this.2 (by decide)
    refine xnext (o.prs.length - (i + 1)) (by omega) ⟨i + 1, v', rfl, by omega, rfl, ?_, hE6 w hE5 (Nat.le_refl _), hE26⟩
    rw [← List.take_append_getElem hil]
    exact ho6
  have : i = o.prs.length := by omega
  subst this
  rw [List.take_length] at ho
  have hp3 : Ps w3 vw o.prs := ho.ps (.inl rfl)
  have hb3 := hb2.ext hE23 fun h => h
  refine hb3.ld (o := 10) (v := cv) rfl ?_
  refine (h4.extN hE3).len ?_
  have hs3 := hE3.size
  refine xloop (fun n vs w' => ∃ (i : Nat) (cw : Value), vs = [.int .i64 i, cw] ∧ i ≤ o.chg.length ∧ n = o.chg.length - i ∧ CO w' w3.heap.size T_delta_Change cw (o.chg.take i) ∧ Ext No w3 w') o.chg.length
    ⟨0, _, rfl, by omega, rfl, CO.nil _ _ _, Ext.refl _ _⟩ ?_
  rintro n vs g w5 ⟨j, cw, rfl, hj, rfl, hco, hE35⟩
  have hE5 := hE3.transN hE35
  refine xifD (fun hlt => ?_) fun hge => ?_
  · have hil : j < o.chg.length := by omega
    have hmem := List.getElem_mem hil
    refine (h4.extN hE5).var j rfl hil (T := T_ref29_Change) (by kernel_rfl) fun pb w6 kv hb he6 hsz hkv => ?_
    refine hb.ldA rfl ?_
    show XNew w6 [kv, .int .i64 o.chg[j].kind, u64 o.chg[j].was, u64 o.chg[j].is] T_delta_Change _
    refine xnew fun sb w7 hsb hsblk hsz7 he7 => ?_
    have hE37 := (hE35.transN he6).transN he7
    have hs7 := hE37.size
    refine CO.app (m := [o.chg[j]]) ei_dch (by decide) (by omega) (by omega) ((hco.extN he6).extN he7) (hsblk.sln (n := 1) rfl) (CC.sing ((hkv.extN he6).extN he7) (hc _ hmem)) (by simp; omega) fun v' w8 ho8 _ hE8 hE8' => ?_
    refine xi (r := ((j + 1 : Nat) : Int)) (by rw [wrapI (by omega)]; omega) ?_
    refine xnext (o.chg.length - (j + 1)) (by omega) ⟨j + 1, v', rfl, by omega, rfl, ?_, hE8' w3 hE37 (Nat.le_refl _)⟩
    rw [← List.take_append_getElem hil]
    exact ho8
  have : j = o.chg.length := by omega
  subst this
  rw [List.take_length] at hco
  have hc5 : Cs w5 cw o.chg := hco.cs (.inl rfl)
  have hb5 := hb3.ext hE35 fun h => h
  refine hb5.ld (o := 0) (v := .int .i64 o.do_) rfl ?_
  refine hb5.ld (o := 1) (v := .int .i64 o.a) rfl ?_
  refine hb5.ld (o := 2) (v := .int .i64 o.b) rfl ?_
  refine hb5.ld (o := 3) (v := kv) rfl ?_
  refine hb5.ld (o := 4) (v := tv) rfl ?_
  refine hb5.ld (o := 5) (v := .bool o.opn) rfl ?_
  refine hb5.ld (o := 6) (v := u64 o.val) rfl ?_
  refine hb5.ld (o := 7) (v := .int .i64 o.n) rfl ?_
  refine hb5.ld (o := 8) (v := .bool o.falls) rfl ?_
  refine hb5.ld (o := 11) (v := bv') rfl ?_
  obtain ⟨a1, c1, rfl⟩ := h1.slice
  obtain ⟨a2, c2, rfl⟩ := h2.slice
  obtain ⟨a5, c5, rfl⟩ := h5.slice
  obtain ⟨a3, c3, rfl⟩ := hp3.slice
  obtain ⟨a4, c4, rfl⟩ := hc5.slice
  obtain ⟨cs', hcs'⟩ : ∃ cs' : List Value, cs' = [.int .i64 o.do_, .int .i64 o.a, .int .i64 o.b, .slice a1 o.key.length c1, .slice a2 o.to.length c2, .bool o.opn, u64 o.val, .int .i64 o.n, .bool o.falls, .slice a3 o.prs.length c3, .slice a4 o.chg.length c4, .slice a5 o.bytes.length c5] := ⟨_, rfl⟩
  have hz5 : Blk w5 zb _ T_artmap_Op := (hzblk.ext hE23 fun h => h).ext hE35 fun h => h
  have hop : OpC w5 o cs' := ⟨_, _, _, _, _, hcs', h1.extN hE5, h2.extN hE5, hp3.extN hE35, hc5, h5.extN hE5⟩
  show XDo P (storeVar T_artmap_Op ⟨zb, 0, none⟩ (.agg (List.toArray [.int .i64 o.do_, .int .i64 o.a, .int .i64 o.b, .slice a1 o.key.length c1, .slice a2 o.to.length c2, .bool o.opn, u64 o.val, .int .i64 o.n, .bool o.falls, .slice a3 o.prs.length c3, .slice a4 o.chg.length c4, .slice a5 o.bytes.length c5]))) w5 _
  rw [← hcs']
  refine store12 hz5 rfl (by kernel_rfl) hop.len hop.one fun w6 hb6 hz6 he6 => ?_
  refine hb6.ldA hop.len ?_
  have hzf : Floor.n ≤ zb := by omega
  refine ⟨cs', rfl, ?_, hE5.trans1 he6 (by omega)⟩
  exact hop.extT he6 hz5 (by decide) hzf

set_option maxRecDepth 100000 in
theorem c_plainly36 (hf : Floor.n ≤ w.heap.size) (ho : OpC w o cs) (hN : o.Near) : Ret P n_law36_plainly [.agg cs.toArray] w fun r w' => ∃ cs', r = .agg cs'.toArray ∧ OpC w' o cs' ∧ Ext No w w' := by
  obtain ⟨kv, tv, pv, cv, bv', rfl, h1, h2, h3, h4, h5⟩ := ho
  have hv := h3.v64
  have hc := h4.ok
  have hl := hN.prs
  have hlc := hN.chg
  refine W_law36_plainly ?_
  show XNew w [.int .i64 o.do_, .int .i64 o.a, .int .i64 o.b, kv, tv, .bool o.opn, u64 o.val, .int .i64 o.n, .bool o.falls, pv, cv, bv'] T_artmap_Op _
  refine xnew fun ab w1 hab hblk hz1 he1 => ?_
  refine xnew fun zb w2 hzb hzblk hz2 he2 => ?_
  have hE2 := he1.transN he2
  have hs2 := hE2.size
  have hb2 := hblk.ext he2 fun h => h
  refine hb2.ld (o := 9) (v := pv) rfl ?_
  refine (h3.extN hE2).len ?_
  refine xloop (fun n vs w' => ∃ (i : Nat) (vw : Value), vs = [.int .i64 i, vw] ∧ i ≤ o.prs.length ∧ n = o.prs.length - i ∧ PsO w' w.heap.size T_ref01_Pair vw (o.prs.take i) ∧ Ext No w w' ∧ Ext No w2 w') o.prs.length
    ⟨0, _, rfl, by omega, rfl, PsO.nil _ _ _, hE2, Ext.refl _ _⟩ ?_
  rintro n vs g w3 ⟨i, vw, rfl, hi, rfl, ho, hE3, hE23⟩
  refine xifD (fun hlt => ?_) fun hge => ?_
  · have hil : i < o.prs.length := by omega
    have hmem := List.getElem_mem hil
    refine (h3.extN hE3).var i rfl hil (T := T_api_Pair) (by kernel_rfl) fun pb w4 kv hb he4 hsz hkv => ?_
    have hE4 := hE3.transN he4
    refine hb.ldA rfl ?_
    show XNew w4 [kv, u64 o.prs[i].2] T_ref01_Pair _
    refine xnew fun sb w5 hsb hsblk hsz5 he5 => ?_
    have hE5 := hE4.transN he5
    have hs5 := hE5.size
    refine PsO.app' (m := [(o.prs[i].1, o.prs[i].2)]) ei_ref (by decide) hf (by omega) ((ho.extN he4).extN he5) (hsblk.sln (n := 1) rfl) (PC.sing ((hkv.extN he4).extN he5) (hv _ hmem)) (by simp; omega) fun v' w6 ho6 hX6 hE6 => ?_
    refine xi (r := ((i + 1 : Nat) : Int)) (by rw [wrapI (by omega)]; omega) ?_
    have hE26 : Ext No w2 w6 := ((hE23.transN he4).transN he5).trans hX6 fun b hb hx => by
      have hx : vw.ownBlock = some b := hx
      obtain ⟨cells, o1, -⟩ := ho
      rcases o1.2 with ⟨rfl, -⟩ | ⟨g, cap, cur, rfl, hg, hgc, -⟩
      · cases hx
      · simp only [Value.ownBlock, Option.some.injEq] at hx
        subst hx
        have a1 := hb2.lt
        have a2 := hzblk.lt
        have hgc' : w2.heap[g]? = some (.cells cur T_ref01_Pair (0, 0)) := by rw [← hE23.same g hb fun h => h]; exact hgc
        rcases Nat.lt_or_ge g w1.heap.size with c1 | c1
        · have c2 : g = ab := by omega
          subst c2
          have := hb2.h.symm.trans hgc'
          simp at this
          exact absurd this.2 (by decide)
        · have c2 : g = zb := by omega
          subst c2
          have := hzblk.h.symm.trans hgc'
          simp at this
          exact absurd this.2 (by decide)
    refine xnext (o.prs.length - (i + 1)) (by omega) ⟨i + 1, v', rfl, by omega, rfl, ?_, hE6 w hE5 (Nat.le_refl _), hE26⟩
    rw [← List.take_append_getElem hil]
    exact ho6
  have : i = o.prs.length := by omega
  subst this
  rw [List.take_length] at ho
  have hp3 : Ps w3 vw o.prs := ho.ps (.inr rfl)
  have hb3 := hb2.ext hE23 fun h => h
  refine hb3.ld (o := 10) (v := cv) rfl ?_
  refine (h4.extN hE3).len ?_
  have hs3 := hE3.size
  refine xloop (fun n vs w' => ∃ (i : Nat) (cw : Value), vs = [.int .i64 i, cw] ∧ i ≤ o.chg.length ∧ n = o.chg.length - i ∧ CO w' w3.heap.size T_ref29_Change cw (o.chg.take i) ∧ Ext No w3 w') o.chg.length
    ⟨0, _, rfl, by omega, rfl, CO.nil _ _ _, Ext.refl _ _⟩ ?_
  rintro n vs g w5 ⟨j, cw, rfl, hj, rfl, hco, hE35⟩
  have hE5 := hE3.transN hE35
  refine xifD (fun hlt => ?_) fun hge => ?_
  · have hil : j < o.chg.length := by omega
    have hmem := List.getElem_mem hil
    refine (h4.extN hE5).var j rfl hil (T := T_delta_Change) (by kernel_rfl) fun pb w6 kv hb he6 hsz hkv => ?_
    refine hb.ldA rfl ?_
    show XNew w6 [kv, .int .i64 o.chg[j].kind, u64 o.chg[j].was, u64 o.chg[j].is] T_ref29_Change _
    refine xnew fun sb w7 hsb hsblk hsz7 he7 => ?_
    have hE37 := (hE35.transN he6).transN he7
    have hs7 := hE37.size
    refine CO.app (m := [o.chg[j]]) ei_rch (by decide) (by omega) (by omega) ((hco.extN he6).extN he7) (hsblk.sln (n := 1) rfl) (CC.sing ((hkv.extN he6).extN he7) (hc _ hmem)) (by simp; omega) fun v' w8 ho8 _ hE8 hE8' => ?_
    refine xi (r := ((j + 1 : Nat) : Int)) (by rw [wrapI (by omega)]; omega) ?_
    refine xnext (o.chg.length - (j + 1)) (by omega) ⟨j + 1, v', rfl, by omega, rfl, ?_, hE8' w3 hE37 (Nat.le_refl _)⟩
    rw [← List.take_append_getElem hil]
    exact ho8
  have : j = o.chg.length := by omega
  subst this
  rw [List.take_length] at hco
  have hc5 : Cs w5 cw o.chg := hco.cs (.inr rfl)
  have hb5 := hb3.ext hE35 fun h => h
  refine hb5.ld (o := 0) (v := .int .i64 o.do_) rfl ?_
  refine hb5.ld (o := 1) (v := .int .i64 o.a) rfl ?_
  refine hb5.ld (o := 2) (v := .int .i64 o.b) rfl ?_
  refine hb5.ld (o := 3) (v := kv) rfl ?_
  refine hb5.ld (o := 4) (v := tv) rfl ?_
  refine hb5.ld (o := 5) (v := .bool o.opn) rfl ?_
  refine hb5.ld (o := 6) (v := u64 o.val) rfl ?_
  refine hb5.ld (o := 7) (v := .int .i64 o.n) rfl ?_
  refine hb5.ld (o := 8) (v := .bool o.falls) rfl ?_
  refine hb5.ld (o := 11) (v := bv') rfl ?_
  obtain ⟨a1, c1, rfl⟩ := h1.slice
  obtain ⟨a2, c2, rfl⟩ := h2.slice
  obtain ⟨a5, c5, rfl⟩ := h5.slice
  obtain ⟨a3, c3, rfl⟩ := hp3.slice
  obtain ⟨a4, c4, rfl⟩ := hc5.slice
  obtain ⟨cs', hcs'⟩ : ∃ cs' : List Value, cs' = [.int .i64 o.do_, .int .i64 o.a, .int .i64 o.b, .slice a1 o.key.length c1, .slice a2 o.to.length c2, .bool o.opn, u64 o.val, .int .i64 o.n, .bool o.falls, .slice a3 o.prs.length c3, .slice a4 o.chg.length c4, .slice a5 o.bytes.length c5] := ⟨_, rfl⟩
  have hz5 : Blk w5 zb _ T_ref35_Op := (hzblk.ext hE23 fun h => h).ext hE35 fun h => h
  have hop : OpC w5 o cs' := ⟨_, _, _, _, _, hcs', h1.extN hE5, h2.extN hE5, hp3.extN hE35, hc5, h5.extN hE5⟩
  show XDo P (storeVar T_ref35_Op ⟨zb, 0, none⟩ (.agg (List.toArray [.int .i64 o.do_, .int .i64 o.a, .int .i64 o.b, .slice a1 o.key.length c1, .slice a2 o.to.length c2, .bool o.opn, u64 o.val, .int .i64 o.n, .bool o.falls, .slice a3 o.prs.length c3, .slice a4 o.chg.length c4, .slice a5 o.bytes.length c5]))) w5 _
  rw [← hcs']
  refine store12 hz5 rfl (by kernel_rfl) hop.len hop.one fun w6 hb6 hz6 he6 => ?_
  refine hb6.ldA hop.len ?_
  have hzf : Floor.n ≤ zb := by omega
  refine ⟨cs', rfl, ?_, hE5.trans1 he6 (by omega)⟩
  exact hop.extT he6 hz5 (by decide) hzf

/-! ### the same -/
set_option maxRecDepth 100000 in
theorem c_rSame36 {cs2 : List Value} (h : OpC w o cs) (h' : OpC w o cs2) (hN : o.Near) : Ret P n_ref36_Same [.agg cs.toArray, .agg cs2.toArray] w fun r w' => r = .bool true ∧ Ext No w w' := by
  obtain ⟨kv, tv, pv, cv, bv', rfl, h1, h2, h3, h4, h5⟩ := h
  obtain ⟨kv', tv', pv', cv', bv2, rfl, k1, k2, k3, k4, k5⟩ := h'
  have e1 := hN.key
  have e2 := hN.to
  have e3 := hN.bytes
  have e4 := hN.prs
  have e5 := hN.chg
  refine W_ref36_Same ?_
  show XNew w [.int .i64 o.do_, .int .i64 o.a, .int .i64 o.b, kv, tv, .bool o.opn, u64 o.val, .int .i64 o.n, .bool o.falls, pv, cv, bv'] T_ref35_Op _
  refine xnew fun ab w1 hab hb1 hz1 he1 => ?_
  show XNew w1 [.int .i64 o.do_, .int .i64 o.a, .int .i64 o.b, kv', tv', .bool o.opn, u64 o.val, .int .i64 o.n, .bool o.falls, pv', cv', bv2] T_ref35_Op _
  refine xnew fun cb w2 hcb hc2 hz2 he2 => ?_
  have hE2 := he1.transN he2
  have hb2 := hb1.ext he2 fun h => h
  refine xj (fun vs w' => vs = [.bool true] ∧ Ext No w w') ?_ ?_
  · refine hb2.ld (o := 0) rfl (hc2.ld (o := 0) rfl (xifT (by simp) ?_))
    refine hb2.ld (o := 1) rfl (hc2.ld (o := 1) rfl (xifT (by simp) ?_))
    refine hb2.ld (o := 2) rfl (hc2.ld (o := 2) rfl (xifT (by simp) ?_))
    refine hb2.ld (o := 3) rfl (hc2.ld (o := 3) rfl ?_)
    refine (c_rSame (h1.extN hE2) (k1.extN hE2) (by omega)).mono ?_
    rintro r w3 ⟨rfl, he3⟩
    refine xifT (by simp) ?_
    have hb3 := hb2.ext he3 fun h => h
    have hc3 := hc2.ext he3 fun h => h
    have hE3 := hE2.transN he3
    refine hb3.ld (o := 4) rfl (hc3.ld (o := 4) rfl ?_)
    refine (c_rSame (h2.extN hE3) (k2.extN hE3) (by omega)).mono ?_
    rintro r w4 ⟨rfl, he4⟩
    refine xifT (by simp) ?_
    have hb4 := hb3.ext he4 fun h => h
    have hc4 := hc3.ext he4 fun h => h
    have hE4 := hE3.transN he4
    refine hb4.ld (o := 5) rfl (hc4.ld (o := 5) rfl (xifT (by simp) ?_))
    refine hb4.ld (o := 6) rfl (hc4.ld (o := 6) rfl (xifT (by simp) ?_))
    refine hb4.ld (o := 7) rfl (hc4.ld (o := 7) rfl (xifT (by simp) ?_))
    refine hb4.ld (o := 8) rfl (hc4.ld (o := 8) rfl (xifT (by simp) ?_))
    refine hb4.ld (o := 9) rfl (hc4.ld (o := 9) rfl ?_)
    refine (c_r19Same (h3.extN hE4) (k3.extN hE4) (by omega) (by omega) fun p hp => by have := hN.pk p hp; omega).mono ?_
    rintro r w5 ⟨rfl, he5⟩
    refine xifT (by simp) ?_
    have hb5 := hb4.ext he5 fun h => h
    have hc5 := hc4.ext he5 fun h => h
    have hE5 := hE4.transN he5
    refine hb5.ld (o := 10) rfl (hc5.ld (o := 10) rfl ?_)
    refine (c_rSame29 (h4.extN hE5) (k4.extN hE5) (by omega) fun c hc => by have := hN.ck c hc; omega).mono ?_
    rintro r w6 ⟨rfl, he6⟩
    refine xifT (by simp) ?_
    have hb6 := hb5.ext he6 fun h => h
    have hc6 := hc5.ext he6 fun h => h
    have hE6 := hE5.transN he6
    refine hb6.ld (o := 11) rfl (hc6.ld (o := 11) rfl ?_)
    refine (c_rSame (h5.extN hE6) (k5.extN hE6) (by omega)).mono ?_
    rintro r w7 ⟨rfl, he7⟩
    exact ⟨by simp, hE6.transN he7⟩
  · rintro vs g w3 ⟨rfl, he3⟩
    exact ⟨rfl, he3⟩
/-! ### bare, the document's -/
theorem c_has {l : List UInt8} {s : UInt8} (hl : l.length ≤ 1000) : Ret P n_ref36_has [str l, bv s] w fun r w' => r = .bool (decide (s ∈ l)) ∧ w' = w := by
  refine W_ref36_has ?_
  refine xloop (fun n vs w' => ∃ (i : Nat) (x : Value), vs = [.int .i64 i, x] ∧ i ≤ l.length ∧ n = l.length - i ∧ s ∉ l.take i ∧ w' = w) l.length ⟨0, _, rfl, by omega, rfl, by simp, rfl⟩ ?_
  rintro n vs g w1 ⟨i, x, rfl, hi, rfl, hn, rfl⟩
  refine xlens ?_
  refine xifD (fun hlt => ?_) fun hge => ?_
  · have hil : i < l.length := by omega
    refine xixstr i l[i] rfl (ba_get hil) ?_
    refine xifE (fun e => ⟨?_, rfl⟩) fun e => ?_
    · have : l[i] = s := UInt8.toNat_inj.1 (by exact_mod_cast e)
      rw [decide_eq_true]
      rw [← this]; exact List.getElem_mem hil
    · refine xi (r := ((i + 1 : Nat) : Int)) (by rw [wrapI (by omega)]; omega) ?_
      refine xnext (l.length - (i + 1)) (by omega) ⟨i + 1, x, rfl, by omega, rfl, fun h => ?_, rfl⟩
      rw [← List.take_append_getElem hil] at h
      rcases List.mem_append.1 h with h | h
      · exact hn h
      · rw [List.mem_singleton.1 h] at e; exact e rfl
  · have : i = l.length := by omega
    subst this
    rw [List.take_length] at hn
    exact ⟨by rw [decide_eq_false hn], rfl⟩

set_option maxRecDepth 100000 in
theorem c_rBare36 (hf : Floor.n ≤ w.heap.size) (ho : OpC w o cs) : Ret P n_ref36_Bare [.agg cs.toArray] w fun r w' => ∃ cs', r = .agg cs'.toArray ∧ OpC w' (bareK o) cs' ∧ Ext No w w' := by
  obtain ⟨kv, tv, pv, cv, bv', rfl, h1, h2, h3, h4, h5⟩ := ho
  obtain ⟨cs, hcs⟩ : ∃ cs : List Value, cs = [.int .i64 o.do_, .int .i64 o.a, .int .i64 o.b, kv, tv, .bool o.opn, u64 o.val, .int .i64 o.n, .bool o.falls, pv, cv, bv'] := ⟨_, rfl⟩
  refine W_ref36_Bare ?_
  rw [← hcs]
  show XNew w cs T_ref35_Op _
  refine xnew fun ab w1 hab hblk hz1 he1 => ?_
  refine xnew fun zb w2 hzb hzblk hz2 he2 => ?_
  have hE2 := he1.transN he2
  have hb2 := hblk.ext he2 fun h => h
  have hs2 := hE2.size
  refine hb2.ld (o := 0) (v := .int .i64 o.do_) (by rw [hcs]; rfl) ?_
  refine c_rForm.mono ?_
  rintro r w3 ⟨rfl, he3⟩
  have hb3 := hb2.ext he3 fun h => h
  refine hb3.ld (o := 0) (v := .int .i64 o.do_) (by rw [hcs]; rfl) ?_
  refine c_rName.mono ?_
  rintro r w4 ⟨rfl, he4⟩
  have hE4 := (hE2.transN he3).transN he4
  have hb4 := hb3.ext he4 fun h => h
  have hzb4 : Blk w4 zb zOp T_ref35_Op := (hzblk.ext he3 fun h => h).ext he4 fun h => h
  have hs4 := hE4.size
  refine xseq ?_
  refine xifD (fun h0 => ?_) fun h0 => ?_
  · show XDo P (storeVar T_ref35_Op ⟨zb, 0, none⟩ (.agg zOp.toArray)) w4 _
    have hzo := OpC.zero w4
    refine store12 hzb4 rfl (by kernel_rfl) hzo.len hzo.one fun w5 hb5 hz5 he5 => ?_
    refine hb5.ldA hzo.len ?_
    refine ⟨_, rfl, ?_, hE4.trans1 he5 (by omega)⟩
    have e : bareK o = .zero := by unfold bareK; dsimp only; rw [if_pos h0]
    rw [e]
    exact OpC.zero w5
  refine hb4.ld (o := 0) (v := .int .i64 o.do_) (by rw [hcs]; rfl) ?_
  have hsl := signsK_len o.do_
  obtain ⟨X1, hX1⟩ : ∃ X : Value, X = if (97 : UInt8) ∈ signsK o.do_ then .int .i64 o.a else .int .i64 0 := ⟨_, rfl⟩
  obtain ⟨X2, hX2⟩ : ∃ X : Value, X = if (98 : UInt8) ∈ signsK o.do_ then .int .i64 o.b else .int .i64 0 := ⟨_, rfl⟩
  obtain ⟨X3, hX3⟩ : ∃ X : Value, X = if (107 : UInt8) ∈ signsK o.do_ then kv else .slice none 0 0 := ⟨_, rfl⟩
  obtain ⟨X4, hX4⟩ : ∃ X : Value, X = if (116 : UInt8) ∈ signsK o.do_ ∧ o.opn = false then tv else .slice none 0 0 := ⟨_, rfl⟩
  obtain ⟨X5, hX5⟩ : ∃ X : Value, X = if (116 : UInt8) ∈ signsK o.do_ then .bool o.opn else .bool false := ⟨_, rfl⟩
  obtain ⟨X6, hX6⟩ : ∃ X : Value, X = if (118 : UInt8) ∈ signsK o.do_ then u64 o.val else .int .u64 0 := ⟨_, rfl⟩
  obtain ⟨X7, hX7⟩ : ∃ X : Value, X = if (110 : UInt8) ∈ signsK o.do_ then .int .i64 o.n else .int .i64 0 := ⟨_, rfl⟩
  obtain ⟨X8, hX8⟩ : ∃ X : Value, X = if (102 : UInt8) ∈ signsK o.do_ then .bool o.falls else .bool false := ⟨_, rfl⟩
  obtain ⟨X9, hX9⟩ : ∃ X : Value, X = if (112 : UInt8) ∈ signsK o.do_ then pv else .slice none 0 0 := ⟨_, rfl⟩
  obtain ⟨X10, hX10⟩ : ∃ X : Value, X = if (99 : UInt8) ∈ signsK o.do_ then cv else .slice none 0 0 := ⟨_, rfl⟩
  obtain ⟨X11, hX11⟩ : ∃ X : Value, X = if (120 : UInt8) ∈ signsK o.do_ then bv' else .slice none 0 0 := ⟨_, rfl⟩
  show XNew w4 zOp T_ref35_Op _
  refine xnew fun xb w5 hxb hxblk hz5 he5 => ?_
  have hb5 := hb4.ext he5 fun h => h
  have hzb5 := hzb4.ext he5 fun h => h
  have hE5 := hE4.transN he5
  show XDo P (storeVar T_ref35_Op ⟨xb, 0, none⟩ (.agg (List.toArray [.int .i64 o.do_, .int .i64 0, .int .i64 0, .slice none 0 0, .slice none 0 0, .bool false, .int .u64 0, .int .i64 0, .bool false, .slice none 0 0, .slice none 0 0, .slice none 0 0]))) w5 _
  refine store12 hxblk rfl (by kernel_rfl) rfl (one_do o.do_) fun w6 hx6 hz6 he6 => ?_
  have hax : ab ≠ xb := by have := hb4.lt; omega
  have hzx : zb ≠ xb := by have := hzb4.lt; omega
  have hwx : w.heap.size ≤ xb := by omega
  have hwz : w.heap.size ≤ zb := by have := he1.size; omega
  have hb6 := hb5.ext he6 hax
  have hzb6 := hzb5.ext he6 hzx
  have hE6 : Ext No w w6 := hE5.trans1 he6 hwx
  refine xj (fun vs w' => vs = [] ∧ Blk w' ab cs T_ref35_Op ∧ Blk w' zb zOp T_ref35_Op ∧ Blk w' xb [.int .i64 o.do_, X1, .int .i64 0, .slice none 0 0, .slice none 0 0, .bool false, .int .u64 0, .int .i64 0, .bool false, .slice none 0 0, .slice none 0 0, .slice none 0 0] T_ref35_Op ∧ Ext No w w') ?_ ?_
  · refine (c_has (l := signsK o.do_) (s := 97) (by omega)).mono ?_
    rintro r w' ⟨rfl, rfl⟩
    refine xifD (fun h => ?_) fun h => ⟨rfl, hb6, hzb6, by rw [hX1, if_neg h]; exact hx6, hE6⟩
    refine hb6.ld (o := 1) (v := .int .i64 o.a) (by rw [hcs]; rfl) ?_
    refine hx6.st1 (o := 1) (by simp) rfl rfl fun w1 hc1 hd1 he1 => ⟨rfl, hb6.ext he1 hax, hzb6.ext he1 hzx, by rw [hX1, if_pos h]; exact hc1, hE6.trans1 he1 hwx⟩
  rintro vs g w7 ⟨rfl, hb7, hzb7, hx7, hE7⟩
  refine xj (fun vs w' => vs = [] ∧ Blk w' ab cs T_ref35_Op ∧ Blk w' zb zOp T_ref35_Op ∧ Blk w' xb [.int .i64 o.do_, X1, X2, .slice none 0 0, .slice none 0 0, .bool false, .int .u64 0, .int .i64 0, .bool false, .slice none 0 0, .slice none 0 0, .slice none 0 0] T_ref35_Op ∧ Ext No w w') ?_ ?_
  · refine (c_has (l := signsK o.do_) (s := 98) (by omega)).mono ?_
    rintro r w' ⟨rfl, rfl⟩
    refine xifD (fun h => ?_) fun h => ⟨rfl, hb7, hzb7, by rw [hX2, if_neg h]; exact hx7, hE7⟩
    refine hb7.ld (o := 2) (v := .int .i64 o.b) (by rw [hcs]; rfl) ?_
    refine hx7.st1 (o := 2) (by simp) rfl rfl fun w1 hc1 hd1 he1 => ⟨rfl, hb7.ext he1 hax, hzb7.ext he1 hzx, by rw [hX2, if_pos h]; exact hc1, hE7.trans1 he1 hwx⟩
  rintro vs g w8 ⟨rfl, hb8, hzb8, hx8, hE8⟩
  refine xj (fun vs w' => vs = [] ∧ Blk w' ab cs T_ref35_Op ∧ Blk w' zb zOp T_ref35_Op ∧ Blk w' xb [.int .i64 o.do_, X1, X2, .slice none 0 0, .slice none 0 0, .bool false, .int .u64 0, X7, .bool false, .slice none 0 0, .slice none 0 0, .slice none 0 0] T_ref35_Op ∧ Ext No w w') ?_ ?_
  · refine (c_has (l := signsK o.do_) (s := 110) (by omega)).mono ?_
    rintro r w' ⟨rfl, rfl⟩
    refine xifD (fun h => ?_) fun h => ⟨rfl, hb8, hzb8, by rw [hX7, if_neg h]; exact hx8, hE8⟩
    refine hb8.ld (o := 7) (v := .int .i64 o.n) (by rw [hcs]; rfl) ?_
    refine hx8.st1 (o := 7) (by simp) rfl rfl fun w1 hc1 hd1 he1 => ⟨rfl, hb8.ext he1 hax, hzb8.ext he1 hzx, by rw [hX7, if_pos h]; exact hc1, hE8.trans1 he1 hwx⟩
  rintro vs g w9 ⟨rfl, hb9, hzb9, hx9, hE9⟩
  refine xj (fun vs w' => vs = [] ∧ Blk w' ab cs T_ref35_Op ∧ Blk w' zb zOp T_ref35_Op ∧ Blk w' xb [.int .i64 o.do_, X1, X2, X3, .slice none 0 0, .bool false, .int .u64 0, X7, .bool false, .slice none 0 0, .slice none 0 0, .slice none 0 0] T_ref35_Op ∧ Ext No w w') ?_ ?_
  · refine (c_has (l := signsK o.do_) (s := 107) (by omega)).mono ?_
    rintro r w' ⟨rfl, rfl⟩
    refine xifD (fun h => ?_) fun h => ⟨rfl, hb9, hzb9, by rw [hX3, if_neg h]; exact hx9, hE9⟩
    refine hb9.ld (o := 3) (v := kv) (by rw [hcs]; rfl) ?_
    refine hx9.st1 (o := 3) (by simp) h1.one1 rfl fun w1 hc1 hd1 he1 => ⟨rfl, hb9.ext he1 hax, hzb9.ext he1 hzx, by rw [hX3, if_pos h]; exact hc1, hE9.trans1 he1 hwx⟩
  rintro vs g w10 ⟨rfl, hb10, hzb10, hx10, hE10⟩
  refine xj (fun vs w' => vs = [] ∧ Blk w' ab cs T_ref35_Op ∧ Blk w' zb zOp T_ref35_Op ∧ Blk w' xb [.int .i64 o.do_, X1, X2, X3, X4, X5, .int .u64 0, X7, .bool false, .slice none 0 0, .slice none 0 0, .slice none 0 0] T_ref35_Op ∧ Ext No w w') ?_ ?_
  · refine (c_has (l := signsK o.do_) (s := 116) (by omega)).mono ?_
    rintro r w' ⟨rfl, rfl⟩
    refine xifD (fun h => ?_) fun h => ⟨rfl, hb10, hzb10, by rw [hX4, hX5, if_neg h, if_neg fun e => h e.1]; exact hx10, hE10⟩
    refine hb10.ld (o := 5) (v := .bool o.opn) (by rw [hcs]; rfl) ?_
    refine hx10.st1 (o := 5) (by simp) rfl rfl fun w1 hc1 hd1 he1 => ?_
    have hbt := hb10.ext he1 hax
    have hzt := hzb10.ext he1 hzx
    have hEt := hE10.trans1 he1 hwx
    refine hbt.ld (o := 5) (v := .bool o.opn) (by rw [hcs]; rfl) ?_
    cases eo : o.opn
    · refine xifT rfl ?_
      refine hbt.ld (o := 4) (v := tv) (by rw [hcs]; rfl) ?_
      refine hc1.st1 (o := 4) (by simp) h2.one1 rfl fun w2 hc2 hd2 he2 => ⟨rfl, hbt.ext he2 hax, hzt.ext he2 hzx, ?_, hEt.trans1 he2 hwx⟩
      rw [hX4, hX5, if_pos h, if_pos ⟨h, eo⟩, eo]
      rw [eo] at hc2
      exact hc2
    · refine xifF rfl ⟨rfl, hbt, hzt, ?_, hEt⟩
      rw [hX4, hX5, if_pos h, if_neg (fun e => by rw [eo] at e; cases e.2), eo]
      rw [eo] at hc1
      exact hc1
  rintro vs g w11 ⟨rfl, hb11, hzb11, hx11, hE11⟩
  refine xj (fun vs w' => vs = [] ∧ Blk w' ab cs T_ref35_Op ∧ Blk w' zb zOp T_ref35_Op ∧ Blk w' xb [.int .i64 o.do_, X1, X2, X3, X4, X5, X6, X7, .bool false, .slice none 0 0, .slice none 0 0, .slice none 0 0] T_ref35_Op ∧ Ext No w w') ?_ ?_
  · refine (c_has (l := signsK o.do_) (s := 118) (by omega)).mono ?_
    rintro r w' ⟨rfl, rfl⟩
    refine xifD (fun h => ?_) fun h => ⟨rfl, hb11, hzb11, by rw [hX6, if_neg h]; exact hx11, hE11⟩
    refine hb11.ld (o := 6) (v := u64 o.val) (by rw [hcs]; rfl) ?_
    refine hx11.st1 (o := 6) (by simp) rfl rfl fun w1 hc1 hd1 he1 => ⟨rfl, hb11.ext he1 hax, hzb11.ext he1 hzx, by rw [hX6, if_pos h]; exact hc1, hE11.trans1 he1 hwx⟩
  rintro vs g w12 ⟨rfl, hb12, hzb12, hx12, hE12⟩
  refine xj (fun vs w' => vs = [] ∧ Blk w' ab cs T_ref35_Op ∧ Blk w' zb zOp T_ref35_Op ∧ Blk w' xb [.int .i64 o.do_, X1, X2, X3, X4, X5, X6, X7, X8, .slice none 0 0, .slice none 0 0, .slice none 0 0] T_ref35_Op ∧ Ext No w w') ?_ ?_
  · refine (c_has (l := signsK o.do_) (s := 102) (by omega)).mono ?_
    rintro r w' ⟨rfl, rfl⟩
    refine xifD (fun h => ?_) fun h => ⟨rfl, hb12, hzb12, by rw [hX8, if_neg h]; exact hx12, hE12⟩
    refine hb12.ld (o := 8) (v := .bool o.falls) (by rw [hcs]; rfl) ?_
    refine hx12.st1 (o := 8) (by simp) rfl rfl fun w1 hc1 hd1 he1 => ⟨rfl, hb12.ext he1 hax, hzb12.ext he1 hzx, by rw [hX8, if_pos h]; exact hc1, hE12.trans1 he1 hwx⟩
  rintro vs g w13 ⟨rfl, hb13, hzb13, hx13, hE13⟩
  refine xj (fun vs w' => vs = [] ∧ Blk w' ab cs T_ref35_Op ∧ Blk w' zb zOp T_ref35_Op ∧ Blk w' xb [.int .i64 o.do_, X1, X2, X3, X4, X5, X6, X7, X8, X9, .slice none 0 0, .slice none 0 0] T_ref35_Op ∧ Ext No w w') ?_ ?_
  · refine (c_has (l := signsK o.do_) (s := 112) (by omega)).mono ?_
    rintro r w' ⟨rfl, rfl⟩
    refine xifD (fun h => ?_) fun h => ⟨rfl, hb13, hzb13, by rw [hX9, if_neg h]; exact hx13, hE13⟩
    refine hb13.ld (o := 9) (v := pv) (by rw [hcs]; rfl) ?_
    refine hx13.st1 (o := 9) (by simp) h3.one1 rfl fun w1 hc1 hd1 he1 => ⟨rfl, hb13.ext he1 hax, hzb13.ext he1 hzx, by rw [hX9, if_pos h]; exact hc1, hE13.trans1 he1 hwx⟩
  rintro vs g w14 ⟨rfl, hb14, hzb14, hx14, hE14⟩
  refine xj (fun vs w' => vs = [] ∧ Blk w' ab cs T_ref35_Op ∧ Blk w' zb zOp T_ref35_Op ∧ Blk w' xb [.int .i64 o.do_, X1, X2, X3, X4, X5, X6, X7, X8, X9, X10, .slice none 0 0] T_ref35_Op ∧ Ext No w w') ?_ ?_
  · refine (c_has (l := signsK o.do_) (s := 99) (by omega)).mono ?_
    rintro r w' ⟨rfl, rfl⟩
    refine xifD (fun h => ?_) fun h => ⟨rfl, hb14, hzb14, by rw [hX10, if_neg h]; exact hx14, hE14⟩
    refine hb14.ld (o := 10) (v := cv) (by rw [hcs]; rfl) ?_
    refine hx14.st1 (o := 10) (by simp) h4.one1 rfl fun w1 hc1 hd1 he1 => ⟨rfl, hb14.ext he1 hax, hzb14.ext he1 hzx, by rw [hX10, if_pos h]; exact hc1, hE14.trans1 he1 hwx⟩
  rintro vs g w15 ⟨rfl, hb15, hzb15, hx15, hE15⟩
  refine xj (fun vs w' => vs = [] ∧ Blk w' ab cs T_ref35_Op ∧ Blk w' zb zOp T_ref35_Op ∧ Blk w' xb [.int .i64 o.do_, X1, X2, X3, X4, X5, X6, X7, X8, X9, X10, X11] T_ref35_Op ∧ Ext No w w') ?_ ?_
  · refine (c_has (l := signsK o.do_) (s := 120) (by omega)).mono ?_
    rintro r w' ⟨rfl, rfl⟩
    refine xifD (fun h => ?_) fun h => ⟨rfl, hb15, hzb15, by rw [hX11, if_neg h]; exact hx15, hE15⟩
    refine hb15.ld (o := 11) (v := bv') (by rw [hcs]; rfl) ?_
    refine hx15.st1 (o := 11) (by simp) h5.one1 rfl fun w1 hc1 hd1 he1 => ⟨rfl, hb15.ext he1 hax, hzb15.ext he1 hzx, by rw [hX11, if_pos h]; exact hc1, hE15.trans1 he1 hwx⟩
  rintro vs g w16 ⟨rfl, hb16, hzb16, hx16, hE16⟩
  have e : bareK o = { do_ := o.do_, a := if 97 ∈ signsK o.do_ then o.a else 0, b := if 98 ∈ signsK o.do_ then o.b else 0, key := if 107 ∈ signsK o.do_ then o.key else [], to := if 116 ∈ signsK o.do_ ∧ o.opn = false then o.to else [], opn := if 116 ∈ signsK o.do_ then o.opn else false, val := if 118 ∈ signsK o.do_ then o.val else 0, n := if 110 ∈ signsK o.do_ then o.n else 0, falls := if 102 ∈ signsK o.do_ then o.falls else false, prs := if 112 ∈ signsK o.do_ then o.prs else [], chg := if 99 ∈ signsK o.do_ then o.chg else [], bytes := if 120 ∈ signsK o.do_ then o.bytes else [] } := by
    unfold bareK; dsimp only; rw [if_neg h0]
  have hop : OpC w16 (bareK o) [.int .i64 o.do_, X1, X2, X3, X4, X5, X6, X7, X8, X9, X10, X11] := by
    rw [e]
    refine ⟨X3, X4, X9, X10, X11, ?_, ?_, ?_, ?_, ?_, ?_⟩
    · have y1 : X1 = .int .i64 (if 97 ∈ signsK o.do_ then o.a else 0) := by rw [hX1]; split <;> rfl
      have y2 : X2 = .int .i64 (if 98 ∈ signsK o.do_ then o.b else 0) := by rw [hX2]; split <;> rfl
      have y5 : X5 = .bool (if 116 ∈ signsK o.do_ then o.opn else false) := by rw [hX5]; split <;> rfl
      have y6 : X6 = u64 (if 118 ∈ signsK o.do_ then o.val else 0) := by rw [hX6]; split <;> rfl
      have y7 : X7 = .int .i64 (if 110 ∈ signsK o.do_ then o.n else 0) := by rw [hX7]; split <;> rfl
      have y8 : X8 = .bool (if 102 ∈ signsK o.do_ then o.falls else false) := by rw [hX8]; split <;> rfl
      rw [y1, y2, y5, y6, y7, y8]
    · rw [hX3]; dsimp only; split
      · exact h1.extN hE16
      · exact Bs.nil _
    · rw [hX4]; dsimp only; split
      · exact h2.extN hE16
      · exact Bs.nil _
    · rw [hX9]; dsimp only; split
      · exact h3.extN hE16
      · exact Ps.nil _
    · rw [hX10]; dsimp only; split
      · exact h4.extN hE16
      · exact Cs.nil _
    · rw [hX11]; dsimp only; split
      · exact h5.extN hE16
      · exact Bs.nil _
  refine hx16.ldA rfl ?_
  refine store12 hzb16 rfl (by kernel_rfl) hop.len hop.one fun w' hb' hz' he' => ?_
  refine hb'.ldA hop.len ?_
  refine ⟨_, rfl, ?_, hE16.trans1 he' hwz⟩
  exact hop.extT he' hzb16 (by decide) (by omega)

/-! ### bare, the program's -/
/-- what is kept by some signs -/
def bareP (o : OpV) (l : List UInt8) : OpV :=
  { do_ := o.do_, a := if 97 ∈ l then o.a else 0, b := if 98 ∈ l then o.b else 0, key := if 107 ∈ l then o.key else [], to := if 116 ∈ l ∧ o.opn = false then o.to else [], opn := if 116 ∈ l then o.opn else false, val := if 118 ∈ l then o.val else 0, n := if 110 ∈ l then o.n else 0, falls := if 102 ∈ l then o.falls else false, prs := if 112 ∈ l then o.prs else [], chg := if 99 ∈ l then o.chg else [], bytes := if 120 ∈ l then o.bytes else [] }
theorem bareP_97 (o : OpV) (l : List UInt8) : bareP o (l ++ [97]) = { bareP o l with a := o.a } := by simp [bareP]
theorem bareP_98 (o : OpV) (l : List UInt8) : bareP o (l ++ [98]) = { bareP o l with b := o.b } := by simp [bareP]
theorem bareP_110 (o : OpV) (l : List UInt8) : bareP o (l ++ [110]) = { bareP o l with n := o.n } := by simp [bareP]
theorem bareP_107 (o : OpV) (l : List UInt8) : bareP o (l ++ [107]) = { bareP o l with key := o.key } := by simp [bareP]
theorem bareP_118 (o : OpV) (l : List UInt8) : bareP o (l ++ [118]) = { bareP o l with val := o.val } := by simp [bareP]
theorem bareP_102 (o : OpV) (l : List UInt8) : bareP o (l ++ [102]) = { bareP o l with falls := o.falls } := by simp [bareP]
theorem bareP_112 (o : OpV) (l : List UInt8) : bareP o (l ++ [112]) = { bareP o l with prs := o.prs } := by simp [bareP]
theorem bareP_99 (o : OpV) (l : List UInt8) : bareP o (l ++ [99]) = { bareP o l with chg := o.chg } := by simp [bareP]
theorem bareP_120 (o : OpV) (l : List UInt8) : bareP o (l ++ [120]) = { bareP o l with bytes := o.bytes } := by simp [bareP]
theorem bareP_116 (o : OpV) (l : List UInt8) : bareP o (l ++ [116]) = { bareP o l with opn := o.opn, to := if o.opn then (bareP o l).to else o.to } := by
  cases eo : o.opn <;> simp [bareP, eo]
set_option maxRecDepth 100000 in
theorem c_sBare (hf : Floor.n ≤ w.heap.size) (ho : OpC w o cs) (hN : o.Near) : Ret P n_script_Bare [.agg cs.toArray] w fun r w' => ∃ cs', r = .agg cs'.toArray ∧ OpC w' (bareK o) cs' ∧ Ext No w w' := by
  obtain ⟨kv, tv, pv, cv, bv', hcs, h1, h2, h3, h4, h5⟩ := ho
  refine W_script_Bare ?_
  show XNew w cs T_artmap_Op _
  refine xnew fun ab w1 hab hblk hz1 he1 => ?_
  refine xnew fun zb w2 hzb hzblk hz2 he2 => ?_
  have hE2 := he1.transN he2
  have hb2 := hblk.ext he2 fun h => h
  have hs2 := hE2.size
  refine hb2.ld (o := 0) (v := .int .i64 o.do_) (by rw [hcs]; rfl) ?_
  refine c_form.mono ?_
  rintro r w4 ⟨rfl, he4⟩
  have hE4 := hE2.transN he4
  have hb4 := hb2.ext he4 fun h => h
  have hzb4 : Blk w4 zb zOp T_artmap_Op := hzblk.ext he4 fun h => h
  have hs4 := hE4.size
  refine xtup (v := str (nameK o.do_)) rfl (xtup (v := str (signsK o.do_)) rfl ?_)
  refine xseq ?_
  refine xifD (fun h0 => ?_) fun h0 => ?_
  · show XDo P (storeVar T_artmap_Op ⟨zb, 0, none⟩ (.agg zOp.toArray)) w4 _
    have hzo := OpC.zero w4
    refine store12 hzb4 rfl (by kernel_rfl) hzo.len hzo.one fun w5 hb5 hz5 he5 => ?_
    refine hb5.ldA hzo.len ?_
    refine ⟨_, rfl, ?_, hE4.trans1 he5 (by omega)⟩
    have e : bareK o = .zero := by unfold bareK; dsimp only; rw [if_pos h0]
    rw [e]
    exact OpC.zero w5
  refine hb4.ld (o := 0) (v := .int .i64 o.do_) (by rw [hcs]; rfl) ?_
  show XNew w4 zOp T_artmap_Op _
  refine xnew fun xb w5 hxb hxblk hz5 he5 => ?_
  have hb5 := hb4.ext he5 fun h => h
  have hzb5 := hzb4.ext he5 fun h => h
  have hE5 := hE4.transN he5
  show XDo P (storeVar T_artmap_Op ⟨xb, 0, none⟩ (.agg (List.toArray [.int .i64 o.do_, .int .i64 0, .int .i64 0, .slice none 0 0, .slice none 0 0, .bool false, .int .u64 0, .int .i64 0, .bool false, .slice none 0 0, .slice none 0 0, .slice none 0 0]))) w5 _
  refine store12 hxblk rfl (by kernel_rfl) rfl (one_do o.do_) fun w6 hx6 hz6 he6 => ?_
  have hax : ab ≠ xb := by have := hb4.lt; omega
  have hzx : zb ≠ xb := by have := hzb4.lt; omega
  have hwx : w.heap.size ≤ xb := by omega
  have hwz : w.heap.size ≤ zb := by have := he1.size; omega
  have hwf : Floor.n ≤ zb := Nat.le_trans hf hwz
  have hb6 := hb5.ext he6 hax
  have hzb6 := hzb5.ext he6 hzx
  have hE6 : Ext No w w6 := hE5.trans1 he6 hwx
  refine xrange fun ib w7 hib hz7 hit he7 => ?_
  have hE7 := hE6.transN he7
  have hxf : Floor.n ≤ xb := Nat.le_trans hf hwx
  have hxi : xb ≠ ib := by have := hx6.lt; omega
  have hai : ab ≠ ib := by have := hb6.lt; omega
  have hzi : zb ≠ ib := by have := hzb6.lt; omega
  have hwi : w.heap.size ≤ ib := by have := hE6.size; omega
  refine xloop (fun n vs w' => ∃ (i : Nat) (x0 x1 x2 x3 x4 x5 x6 x7 x8 x9 : Value) (cs' : List Value), vs = [x0, x1, x2, x3, x4, x5, x6, x7, x8, x9] ∧ i ≤ (signsK o.do_).length ∧ n = (signsK o.do_).length - i ∧ It w' ib (signsK o.do_) i ∧ Blk w' ab cs T_artmap_Op ∧ Blk w' zb zOp T_artmap_Op ∧
      Blk w' xb cs' T_artmap_Op ∧ OpC w' (bareP o ((signsK o.do_).take i)) cs' ∧ Ext No w w') (signsK o.do_).length
    ⟨0, _, _, _, _, _, _, _, _, _, _, _, rfl, by omega, rfl, hit, hb6.ext he7 fun h => h, hzb6.ext he7 fun h => h, hx6.ext he7 fun h => h, ⟨_, _, _, _, _, rfl, Bs.nil _, Bs.nil _, Ps.nil _, Cs.nil _, Bs.nil _⟩, hE7⟩ ?_
  rintro n vs g w8 ⟨i, x0, x1, x2, x3, x4, x5, x6, x7, x8, x9, cs', rfl, hi, rfl, hit8, hb8, hzb8, hx8, hop8, hE8⟩
  by_cases hil : i < (signsK o.do_).length
  · obtain ⟨hs128, hsg⟩ := signsK_small (List.getElem_mem hil)
    have htk : (signsK o.do_).take (i + 1) = (signsK o.do_).take i ++ [(signsK o.do_)[i]] := (List.take_append_getElem hil).symm
    refine xnextA hit8 hil hs128 fun w9 hit9 hz9 he9 => ?_
    have hb9 := hb8.ext he9 hai
    have hzb9 := hzb8.ext he9 hzi
    have hx9 := hx8.ext he9 hxi
    have hE9 : Ext No w w9 := hE8.trans1 he9 hwi
    -- what was known of the operation that is made stays: the iterator's block holds no cells
    have hop9 : OpC w9 (bareP o ((signsK o.do_).take i)) cs' := hop8.extI he9 hit8
    clear he9
    revert hit9
    generalize hsi : (signsK o.do_)[i] = s at hsg htk
    intro hit9
    refine xifT rfl ?_
    have fin : ∀ {w' w'' : World} {op : OpV} {cs2 cs3 : List Value}, bareP o ((signsK o.do_).take i ++ [s]) = op → Ext No w w' → It w' ib (signsK o.do_) (i + 1) → Blk w' ab cs T_artmap_Op → Blk w' zb zOp T_artmap_Op → Blk w' xb cs2 T_artmap_Op → Ext (· = xb) w' w'' → Blk w'' xb cs3 T_artmap_Op → OpC w' op cs3 →
        i + 1 ≤ (signsK o.do_).length ∧ (signsK o.do_).length - (i + 1) = (signsK o.do_).length - (i + 1) ∧ It w'' ib (signsK o.do_) (i + 1) ∧ Blk w'' ab cs T_artmap_Op ∧ Blk w'' zb zOp T_artmap_Op ∧ Blk w'' xb cs3 T_artmap_Op ∧ OpC w'' (bareP o ((signsK o.do_).take (i + 1))) cs3 ∧ Ext No w w'' := by
      intro w' w'' op cs2 cs3 hop hE' hi' ha' hz' hx' he' hx2 ho2
      refine ⟨hil, rfl, hi'.ext he' fun e => hxi e.symm, ha'.ext he' hax, hz'.ext he' hzx, hx2, ?_, hE'.trans1 he' hwx⟩
      rw [htk, hop]
      exact ho2.ext1 he' hx' hxf
    obtain ⟨kv2, tv2, pv2, cv2, bv2, rfl, g1, g2, g3, g4, g5⟩ := hop9
    simp only [SG, List.mem_cons, List.mem_nil_iff, or_false] at hsg
    rcases hsg with rfl | rfl | rfl | rfl | rfl | rfl | rfl | rfl | rfl | rfl
    · refine xifT rfl ?_
      refine hb9.ld (o := 1) (v := .int .i64 o.a) (by rw [hcs]; rfl) ?_
      refine hx9.st1 (o := 1) (by simp) rfl rfl fun w10 hx10 hz10 he10 => ?_
      exact xnext _ (Nat.sub_lt_sub_left hil (Nat.lt_succ_self i)) ⟨i + 1, _, _, _, _, _, _, _, _, _, _, _, rfl, fin (bareP_97 o _) hE9 hit9 hb9 hzb9 hx9 he10 hx10 ⟨kv2, tv2, pv2, cv2, bv2, rfl, g1, g2, g3, g4, g5⟩⟩
    · refine xifF rfl (xifT rfl ?_)
      refine hb9.ld (o := 2) (v := .int .i64 o.b) (by rw [hcs]; rfl) ?_
      refine hx9.st1 (o := 2) (by simp) rfl rfl fun w10 hx10 hz10 he10 => ?_
      exact xnext _ (Nat.sub_lt_sub_left hil (Nat.lt_succ_self i)) ⟨i + 1, _, _, _, _, _, _, _, _, _, _, _, rfl, fin (bareP_98 o _) hE9 hit9 hb9 hzb9 hx9 he10 hx10 ⟨kv2, tv2, pv2, cv2, bv2, rfl, g1, g2, g3, g4, g5⟩⟩
    · refine xifF rfl (xifF rfl (xifT rfl ?_))
      refine hb9.ld (o := 7) (v := .int .i64 o.n) (by rw [hcs]; rfl) ?_
      refine hx9.st1 (o := 7) (by simp) rfl rfl fun w10 hx10 hz10 he10 => ?_
      exact xnext _ (Nat.sub_lt_sub_left hil (Nat.lt_succ_self i)) ⟨i + 1, _, _, _, _, _, _, _, _, _, _, _, rfl, fin (bareP_110 o _) hE9 hit9 hb9 hzb9 hx9 he10 hx10 ⟨kv2, tv2, pv2, cv2, bv2, rfl, g1, g2, g3, g4, g5⟩⟩
    · refine xifF rfl (xifF rfl (xifF rfl (xifT rfl ?_)))
      refine hb9.ld (o := 3) (v := kv) (by rw [hcs]; rfl) ?_
      refine (c_Clone (h1.extN hE9) (by have := hN.key; omega)).mono ?_
      rintro r w10 ⟨hr, he10⟩
      have hx10 := hx9.ext he10 fun h => h
      refine hx10.st1 (o := 3) (by simp) hr.one1 rfl fun w11 hx11 hz11 he11 => ?_
      exact xnext _ (Nat.sub_lt_sub_left hil (Nat.lt_succ_self i)) ⟨i + 1, _, _, _, _, _, _, _, _, _, _, _, rfl, fin (bareP_107 o _) (hE9.transN he10) (hit9.ext he10 fun h => h) (hb9.ext he10 fun h => h) (hzb9.ext he10 fun h => h) hx10 he11 hx11 ⟨r, tv2, pv2, cv2, bv2, rfl, hr, g2.extN he10, g3.extN he10, g4.extN he10, g5.extN he10⟩⟩
    · refine xifF rfl (xifF rfl (xifF rfl (xifF rfl (xifT rfl ?_))))
      refine hb9.ld (o := 5) (v := .bool o.opn) (by rw [hcs]; rfl) ?_
      refine hx9.st1 (o := 5) (by simp) rfl rfl fun w10 hx10 hz10 he10 => ?_
      have hb10 := hb9.ext he10 hax
      refine hb10.ld (o := 5) (v := .bool o.opn) (by rw [hcs]; rfl) ?_
      have hop10 : OpC w10 { bareP o ((signsK o.do_).take i) with opn := o.opn } _ := OpC.ext1 ⟨kv2, tv2, pv2, cv2, bv2, rfl, g1, g2, g3, g4, g5⟩ he10 hx9 hxf
      have e116 := bareP_116 o ((signsK o.do_).take i)
      cases eo : o.opn
      · refine xifT rfl ?_
        rw [eo] at hx10 hop10 e116
        refine hb10.ld (o := 4) (v := tv) (by rw [hcs]; rfl) ?_
        have hE10 : Ext No w w10 := hE9.trans1 he10 hwx
        refine (c_Clone (h2.extN hE10) (by have := hN.to; omega)).mono ?_
        rintro r w11 ⟨hr, he11⟩
        have hx11 := hx10.ext he11 fun h => h
        obtain ⟨kv3, tv3, pv3, cv3, bv3, hc3, f1, f2, f3, f4, f5⟩ := hop10.extN he11
        refine hx11.st1 (o := 4) (by simp) hr.one1 rfl fun w12 hx12 hz12 he12 => ?_
        simp only [List.cons.injEq, and_true, true_and] at hc3
        obtain ⟨rfl, rfl, rfl, rfl, rfl⟩ := hc3
        exact xnext _ (Nat.sub_lt_sub_left hil (Nat.lt_succ_self i)) ⟨i + 1, _, _, _, _, _, _, _, _, _, _, _, rfl, fin e116 (hE10.transN he11) ((hit9.ext he10 fun e => hxi e.symm).ext he11 fun h => h) (hb10.ext he11 fun h => h) ((hzb9.ext he10 hzx).ext he11 fun h => h) hx11 he12 hx12 ⟨kv2, r, pv2, cv2, bv2, rfl, f1, hr, f3, f4, f5⟩⟩
      · refine xifF rfl ?_
        rw [eo] at hx10 hop10 e116
        exact xnext _ (Nat.sub_lt_sub_left hil (Nat.lt_succ_self i)) ⟨i + 1, _, _, _, _, _, _, _, _, _, _, _, rfl, fin e116 hE9 hit9 hb9 hzb9 hx9 he10 hx10 ⟨kv2, tv2, pv2, cv2, bv2, rfl, g1, g2, g3, g4, g5⟩⟩
    · refine xifF rfl (xifF rfl (xifF rfl (xifF rfl (xifF rfl (xifT rfl ?_)))))
      refine hb9.ld (o := 6) (v := u64 o.val) (by rw [hcs]; rfl) ?_
      refine hx9.st1 (o := 6) (by simp) rfl rfl fun w10 hx10 hz10 he10 => ?_
      exact xnext _ (Nat.sub_lt_sub_left hil (Nat.lt_succ_self i)) ⟨i + 1, _, _, _, _, _, _, _, _, _, _, _, rfl, fin (bareP_118 o _) hE9 hit9 hb9 hzb9 hx9 he10 hx10 ⟨kv2, tv2, pv2, cv2, bv2, rfl, g1, g2, g3, g4, g5⟩⟩
    · refine xifF rfl (xifF rfl (xifF rfl (xifF rfl (xifF rfl (xifF rfl (xifT rfl ?_))))))
      refine hb9.ld (o := 8) (v := .bool o.falls) (by rw [hcs]; rfl) ?_
      refine hx9.st1 (o := 8) (by simp) rfl rfl fun w10 hx10 hz10 he10 => ?_
      exact xnext _ (Nat.sub_lt_sub_left hil (Nat.lt_succ_self i)) ⟨i + 1, _, _, _, _, _, _, _, _, _, _, _, rfl, fin (bareP_102 o _) hE9 hit9 hb9 hzb9 hx9 he10 hx10 ⟨kv2, tv2, pv2, cv2, bv2, rfl, g1, g2, g3, g4, g5⟩⟩
    · refine xifF rfl (xifF rfl (xifF rfl (xifF rfl (xifF rfl (xifF rfl (xifF rfl (xifT rfl ?_)))))))
      refine hb9.ld (o := 9) (v := pv) (by rw [hcs]; rfl) ?_
      refine (c_copyPairs (by have := hE9.size; omega) (h3.extN hE9) hN.prs hN.pk).mono ?_
      rintro r w10 ⟨hr, he10⟩
      have hx10 := hx9.ext he10 fun h => h
      refine hx10.st1 (o := 9) (by simp) hr.one1 rfl fun w11 hx11 hz11 he11 => ?_
      exact xnext _ (Nat.sub_lt_sub_left hil (Nat.lt_succ_self i)) ⟨i + 1, _, _, _, _, _, _, _, _, _, _, _, rfl, fin (bareP_112 o _) (hE9.transN he10) (hit9.ext he10 fun h => h) (hb9.ext he10 fun h => h) (hzb9.ext he10 fun h => h) hx10 he11 hx11 ⟨kv2, tv2, r, cv2, bv2, rfl, g1.extN he10, g2.extN he10, hr, g4.extN he10, g5.extN he10⟩⟩
    · refine xifF rfl (xifF rfl (xifF rfl (xifF rfl (xifF rfl (xifF rfl (xifF rfl (xifF rfl (xifT rfl ?_))))))))
      refine hb9.ld (o := 10) (v := cv) (by rw [hcs]; rfl) ?_
      refine (c_copyChanges (by have := hE9.size; omega) (h4.extN hE9) hN.chg hN.ck).mono ?_
      rintro r w10 ⟨hr, he10⟩
      have hx10 := hx9.ext he10 fun h => h
      refine hx10.st1 (o := 10) (by simp) hr.one1 rfl fun w11 hx11 hz11 he11 => ?_
      exact xnext _ (Nat.sub_lt_sub_left hil (Nat.lt_succ_self i)) ⟨i + 1, _, _, _, _, _, _, _, _, _, _, _, rfl, fin (bareP_99 o _) (hE9.transN he10) (hit9.ext he10 fun h => h) (hb9.ext he10 fun h => h) (hzb9.ext he10 fun h => h) hx10 he11 hx11 ⟨kv2, tv2, pv2, r, bv2, rfl, g1.extN he10, g2.extN he10, g3.extN he10, hr, g5.extN he10⟩⟩
    · refine xifF rfl (xifF rfl (xifF rfl (xifF rfl (xifF rfl (xifF rfl (xifF rfl (xifF rfl (xifF rfl ?_))))))))
      refine hb9.ld (o := 11) (v := bv') (by rw [hcs]; rfl) ?_
      refine (c_Clone (h5.extN hE9) (by have := hN.bytes; omega)).mono ?_
      rintro r w10 ⟨hr, he10⟩
      have hx10 := hx9.ext he10 fun h => h
      refine hx10.st1 (o := 11) (by simp) hr.one1 rfl fun w11 hx11 hz11 he11 => ?_
      exact xnext _ (Nat.sub_lt_sub_left hil (Nat.lt_succ_self i)) ⟨i + 1, _, _, _, _, _, _, _, _, _, _, _, rfl, fin (bareP_120 o _) (hE9.transN he10) (hit9.ext he10 fun h => h) (hb9.ext he10 fun h => h) (hzb9.ext he10 fun h => h) hx10 he11 hx11 ⟨kv2, tv2, pv2, cv2, r, rfl, g1.extN he10, g2.extN he10, g3.extN he10, g4.extN he10, hr⟩⟩
  · have : i = (signsK o.do_).length := by omega
    subst this
    rw [List.take_length] at hop8
    refine xnextE hit8 (Nat.le_refl _) ?_
    refine xifF rfl ?_
    refine hx8.ldA hop8.len ?_
    refine store12 hzb8 rfl (by kernel_rfl) hop8.len hop8.one fun w9 hz9 _ he9 => ?_
    refine hz9.ldA hop8.len ?_
    have e : bareK o = bareP o (signsK o.do_) := by unfold bareK bareP; dsimp only; rw [if_neg h0]
    refine ⟨_, rfl, ?_, hE8.trans1 he9 hwz⟩
    rw [e]
    exact hop8.ext1 he9 hzb8 hwf
end
end Go.Proofs.YtbfnagdpanfphaaGreatDoor
end
