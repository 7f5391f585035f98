/-  law15: put: the helpers, PutIs, PutOwn.  -/
import Derived.Test.YtbneecjeifionaaGreatDoorC15
import Derived.Test.YtbneecjeifionaaGreatDoorPut
import Derived.Test.YtbneecjeifionaaGreatDoorRefS
namespace Go.Proofs.YtbneecjeifionaaGreatDoor
open Go Go.RowKit X
set_option linter.unusedSimpArgs false
set_option linter.unusedVariables false
set_option linter.unusedSectionVars false
theorem xpeq_self {w : World} {K : Value → Prop} (t : T) (k : K (.bool true)) : xPEq P w t.v t.v K := by
  show xPtrs P w (.pointer t.ptr) (.pointer t.ptr) _
  cases t.ptr with
  | none => exact k
  | some a => exact xsame (t := true) (run_sameAddr_same _ _) k
theorem xpne_self {w : World} {K : Value → Prop} (t : T) (k : K (.bool false)) : xPNe P w t.v t.v K := by
  show xPtrs P w (.pointer t.ptr) (.pointer t.ptr) _
  cases t.ptr with
  | none => exact k
  | some a => exact xsame (t := true) (run_sameAddr_same _ _) k
theorem oth_pair : Oth T_ref01_Pair := by unfold Oth; decide
theorem T.v_of_ptr {t t' : T} (h : t'.ptr = t.ptr) : t'.v = t.v := by show Value.pointer _ = Value.pointer _; rw [h]
variable [Floor]
theorem Bs.new {w : World} {b : Nat} {k : Key} (h : Blk w b (k.map bv) T_uint8) : Bs w (.slice (some ⟨b, 0, none⟩) k.length k.length) k := by
  have := h.sl (o := 0) (n := k.length) (cap := k.length) (by simp) (Nat.le_refl _)
  rw [List.drop_zero, List.take_of_length_le (by simp)] at this
  exact Bs.of this
theorem Pr.ins {l : Kv} {k : Key} {x : Nat} (h : Pr l) (hk : k.length ≤ 65535) (hm : l.length < 100000) : Pr (insK l k x) :=
  ⟨insK_rises h.rises k x, fun p hp => by rcases insK_mem hp with rfl | hp; exact hk; exact h.keys p hp, by have := insK_length l k x; omega⟩
theorem Pr.sort {l : Kv} (hl : l.length ≤ 100000) (hk : ∀ p ∈ l, p.1.length ≤ 65535) : Pr (sortK l) := ⟨sortK_rises l, fun p h => hk p (sortK_mem h), Nat.le_trans (sortK_length l) hl⟩
/-- a meter of the law's own -/
theorem Lw.mtNew {w w' : World} {b : Nat} (hw : Lw w) (hb : b = w.heap.size) (h : Blk w' b [.int .i64 0] T_meter_Meter) (he : Ext No w w') : Mt w' (some b) 0 :=
  ⟨(hw.extN he).fl, fun b' hb' => by obtain rfl := Option.some.inj hb'; exact ⟨by rw [hb]; exact hw.fl, h⟩⟩
theorem Ct.put {w w' : World} {t t' : T} {l : Kv} {o n n' x : Nat} {mt : Option Nat} {k : Key} (h : Ct w t l) (hp : Rises l) (hP : PutR w w' o t t' mt n n' k x) : Ct w' t' (insK l k x) :=
  ⟨hP.res.tree, by rw [hP.er]; exact (h.can.put k x).congr fun k' => (insK_look hp k x k').symm, hP.leafy h.leafy⟩
theorem Tree.nbpX {w : World} {t : T} {X : Nat → Prop} (h : Tree w t) (hx : ∀ b, X b → t.All b) : NBP w X := by
  refine ⟨h.nbX hx, fun b hb _ => ?_, fun b hb _ => ?_⟩
  · obtain ⟨cs, T', h1, h2⟩ := h.ty (hx b hb)
    refine ⟨h.fl (hx b hb), cs, T', h1, fun e => ?_⟩
    subst e; rcases h2 with h2 | h2
    · exact absurd h2 (by decide)
    · rcases h2 with h2 | h2 | h2 | h2 | h2 <;> exact absurd h2 (by decide)
  · obtain ⟨cs, T', h1, h2⟩ := h.ty (hx b hb)
    exact ⟨h.fl (hx b hb), cs, T', h1, oth_pair.nt h2⟩
theorem NBP.or {w : World} {X Y : Nat → Prop} (h : NBP w X) (h' : NBP w Y) : NBP w (fun b => X b ∨ Y b) :=
  ⟨h.b.or h'.b, fun b hb hs => hb.elim (fun hb => h.2 b hb hs) fun hb => h'.2 b hb hs, fun b hb hs => hb.elim (fun hb => h.3 b hb hs) fun hb => h'.3 b hb hs⟩
section
variable {w : World} {v vk : Value} {l : Kv} {k : Key} {x : Nat}
theorem c_r15Put (h : Ps w v l) (hk : Bs w vk k) (hx : x < 18446744073709551616) (hl : l.length ≤ 100000) (hks : ∀ p ∈ l, p.1.length ≤ 65535) (hkl : k.length ≤ 65535) :
    Ret P n_ref15_Put [v, vk, .int .u64 x] w fun r w' => Ps w' r (sortK (l ++ [(k, x)])) ∧ Ext No w w' := by
  refine W_ref15_Put ?_
  obtain ⟨T0, cells, hT0, h1, h2⟩ := id h
  refine SO.app (l := []) (m := l) ei_ref (SO.nil w w T_ref01_Pair) (Ext.refl _ _) h1 h2 (by simp; omega) fun v1 w1 hso1 he1 _ _ => ?_
  obtain ⟨ad, cap, rfl⟩ := hk.slice
  show XNew w1 [.slice ad k.length cap, u64 x] T_ref01_Pair _
  refine xnew fun a w2 ha hbl hz2 he2 => ?_
  have hsl : Sl w2 (tyQ T_ref01_Pair) (.slice (some ⟨a, 0, none⟩) 1 1) 2 1 [.slice ad k.length cap, u64 x] := hbl.sln rfl
  refine SO.app (m := [(k, x)]) ei_ref (hso1.extN he2) (he1.transN he2) hsl (PC.sing hk hx) (by simp; omega) fun v2 w3 hso3 he3 _ _ => ?_
  have hmem : ∀ p ∈ [] ++ l ++ [(k, x)], p.1.length ≤ 65535 := fun p hp => by
    simp only [List.nil_append, List.mem_append, List.mem_singleton] at hp
    rcases hp with hp | rfl
    · exact hks p hp
    · exact hkl
  refine (c_rSort (hso3.ps he3 (.inr rfl)) (by simp; omega) (fun p hp => by have := hmem p hp; omega)).mono ?_
  rintro r w4 ⟨hso4, he4⟩
  exact ⟨hso4.ps he4 (.inr rfl), he3.transN he4⟩
end
namespace law15
section
variable {w : World}
theorem c_alive (hw : Lw w) : Ret P n_law15_alive [] w fun r w' => r = .bool true ∧ Ext No w w' := by
  refine W_law15_alive ?_
  show XNew w ([1, 2].map bv) T_uint8 _
  refine xnew fun a1 w1 ha1 hb1 hz1 he1 => ?_
  have hw1 := hw.extN he1
  refine (c_Put (t := .nil) (o := 3) (x := 5) (n := 0) (mt := none) trivial trivial trivial trivial hw1.mt0 (by omega) (by omega) (Bs.new (k := [1, 2]) hb1) (by simp)).mono ?_
  rintro _ w2 ⟨t, n1, rfl, hP, -⟩
  have he2 : Ext No w1 w2 := hP.res.ext.mono fun b _ hb => by rcases hb with hb | hb; cases hb; exact hb.elim
  have hw2 := hw1.extN he2
  have ho := hP.own (· ≠ 4) (by omega) trivial
  have hc : Can t.er (look [(([1, 2] : Key), 5)]) := by
    rw [hP.er]
    exact (Can.nil.put [1, 2] 5).congr fun k' => by
      show _ = if ([1, 2] : Key) = k' then some 5 else none
      by_cases e : k' = [1, 2]
      · subst e; rw [if_pos rfl]
      · rw [if_neg e, if_neg fun h => e h.symm]
  have hct : Ct w2 t [([1, 2], 5)] := ⟨hP.res.tree, hc, hP.leafy trivial⟩
  show XNew w2 ([1, 4].map bv) T_uint8 _
  refine xnew fun a2 w3 ha2 hb2 hz2 he3 => ?_
  have hw3 := hw2.extN he3
  have hct3 := hct.extN he3
  refine (c_Put (o := 4) (x := 6) (n := 0) (mt := none) hct3.tree ho.free.sep hct.can.fine hct.leafy hw3.mt0 (by omega) (by omega) (Bs.new (k := [1, 4]) hb2) (by simp)).mono ?_
  rintro _ w4 ⟨t2, n2, rfl, hP2, -⟩
  have he4 : Ext No w3 w4 := hP2.res.ext.mono fun b _ hb => by rcases hb with hb | hb; cases hb; exact (ho.free.foot b hb).elim
  have r1 : Rises [(([1, 2] : Key), 5)] := by decide +kernel
  have hct2 := hct3.put r1 hP2
  have hct4 := hct3.extN he4
  have hw4 := hw3.extN he4
  have e2 : insK [(([1, 2] : Key), 5)] [1, 4] 6 = [([1, 2], 5), ([1, 4], 6)] := by decide +kernel
  rw [e2] at hct2
  have r2 : Rises [(([1, 2] : Key), 5), ([1, 4], 6)] := by decide +kernel
  have s1 : t.er.shape = [76, 48, 49, 48, 50, 61, 53] := by rw [hct.can.closed r1]; decide +kernel
  have s2 : t2.er.shape = [52, 60, 48, 49, 58, 48, 50, 76, 61, 53, 58, 48, 52, 76, 61, 54, 62] := by rw [hct2.can.closed r2]; decide +kernel
  refine xj (fun vs w' => vs = [.bool true] ∧ Ext No w w') ?_ ?_
  · refine (c_Shape hw4.tab hct4.tree hct4.leafy (by rw [s1]; simp)).mono ?_
    rintro r w5 ⟨rfl, he5⟩
    rw [s1]
    refine xseq ?_
    refine xifT (decide_eq_true rfl) ?_
    refine xifT rfl ?_
    refine (c_Shape (hw4.extN he5).tab (hct2.extN he5).tree hct2.leafy (by rw [s2]; simp)).mono ?_
    rintro r w6 ⟨rfl, he6⟩
    rw [s2]
    refine xseq ?_
    refine xifT (decide_eq_true rfl) ?_
    exact ⟨rfl, ((((he1.transN he2).transN he3).transN he4).transN he5).transN he6⟩
  · rintro vs g w5 ⟨rfl, he⟩
    exact ⟨rfl, he⟩
variable {v kv : Value} {l : Kv} {k : Key} {x : Nat}
theorem l_PutIs (hw : Lw w) (hl : Ps w v l) (hk : Bs w kv k) (hx : x < 18446744073709551616) {o : Nat} (ho : o < 18446744073709551616) : Ret P n_law15_PutIs [v, .agg #[kv, u64 x], .int .u64 o] w fun r w' => r = .bool true ∧ Ext No w w' := by
  refine W_law15_PutIs ?_
  refine xnew fun pb w0 hpb hblk hz he0 => ?_
  have hblk : Blk w0 pb [kv, u64 x] T_ref01_Pair := hblk
  have hw0 := hw.extN he0
  have hl0 := hl.extN he0
  refine xj (fun vs w' => ∃ b, vs = [.bool b] ∧ Ext No w0 w' ∧ (b = false → (l.length ≤ 200 ∧ ∀ x ∈ l, x.1.length ≤ 300) ∧ (k.length ≤ 600 ∨ 65535 < k.length))) ?_ ?_
  · refine (c_far (m := 200) hl0 (by omega)).mono ?_
    rintro r w1 ⟨b, rfl, he, hb⟩
    have hblk1 := hblk.ext he fun h => h
    cases b with
    | false =>
      refine xifF rfl ?_
      refine hblk1.ld (v := kv) rfl ?_
      refine hk.len ?_
      refine xifD (fun h6 => ?_) fun h6 => ?_
      · refine hblk1.ld (v := kv) rfl ?_
        refine hk.len ?_
        refine xifD (fun h7 => ⟨true, rfl, he, fun h => by cases h⟩) fun h7 => ?_
        refine hblk1.ld (v := kv) rfl ?_
        refine hk.len ?_
        exact ⟨_, rfl, he, fun _ => ⟨hb rfl, .inr (by omega)⟩⟩
      · refine hblk1.ld (v := kv) rfl ?_
        refine hk.len ?_
        exact ⟨_, rfl, he, fun _ => ⟨hb rfl, .inl (by omega)⟩⟩
    | true => exact xifT rfl ⟨true, rfl, he, fun h => by cases h⟩
  rintro vs g w1 ⟨b, rfl, he1, hb⟩
  have hw1 := hw0.extN he1
  have hblk1 := hblk.ext he1 fun h => h
  have hE1 := he0.transN he1
  cases b with
  | true =>
    refine xifT rfl ?_
    refine (c_alive hw1).mono ?_
    rintro r w2 ⟨rfl, he2⟩
    exact ⟨rfl, hE1.transN he2⟩
  | false =>
    refine xifF rfl ?_
    obtain ⟨⟨hl200, hk300⟩, hkk⟩ := hb rfl
    have hpr : Pr (sortK l) := Pr.sort (by omega) fun p h => by have := hk300 p h; omega
    have hm200 : (sortK l).length ≤ 200 := Nat.le_trans (sortK_length l) hl200
    refine (c_rSort (hl.extN hE1) (by omega) (fun p h => by have := hk300 p h; omega)).mono ?_
    rintro vl w2 ⟨hso, he2⟩
    have hps := hso.ps he2 (.inr rfl)
    have hw2 := hw1.extN he2
    generalize sortK l = m at hpr hso hps hm200
    refine (c_tree hps hpr hw2 (ow := 1) (by omega)).mono ?_
    rintro r w3 ⟨t, rfl, hct, -, how, -, he3⟩
    have hw3 := hw2.extN he3
    have hE3 := (hE1.transN he2).transN he3
    have hblk3 := hblk1.ext (he2.transN he3) fun h => h
    have hps3 := hps.extN he3
    have hk3 := hk.extN hE3
    refine xj (fun vs w' => ∃ o' : Nat, vs = [.int .u64 o'] ∧ w3 = w' ∧ o' ≠ 1) ?_ ?_
    · exact xifE (fun h => ⟨2, rfl, rfl, by omega⟩) fun h => ⟨o, rfl, rfl, by omega⟩
    rintro vs g w4 ⟨o', rfl, rfl, ho'⟩
    refine hblk3.ld (v := kv) rfl ?_
    refine hblk3.ld (v := u64 x) rfl ?_
    by_cases ho0 : o' = 0
    · subst ho0
      refine c_Put0.mono ?_
      rintro r w5 ⟨rfl, rfl⟩
      refine xifT rfl ?_
      refine xj (fun vs w' => vs = [.bool true] ∧ Ext No w w') ?_ ?_
      · refine xifT rfl ?_
        refine xifT rfl ?_
        refine (c_alive hw3).mono ?_
        rintro r w7 ⟨rfl, he7⟩
        exact ⟨rfl, hE3.transN he7⟩
      · rintro vs g w5 ⟨rfl, he⟩
        exact ⟨rfl, he⟩
    by_cases hbig : 65535 < k.length
    · refine (c_PutBig ho0 hk3 hbig).mono ?_
      rintro r w5 ⟨rfl, rfl⟩
      refine xifF (by simp; omega) ?_
      refine hblk3.ld (v := kv) rfl ?_
      refine hk.len ?_
      refine xifT (by simp; omega) ?_
      refine xj (fun vs w' => vs = [.bool true] ∧ Ext No w w') ?_ ?_
      · refine xifT rfl ?_
        refine xifT rfl ?_
        refine (c_as hw3 hct hps3 hpr).mono ?_
        rintro r w6 ⟨rfl, he6⟩
        refine xifT rfl ?_
        refine (c_alive (hw3.extN he6)).mono ?_
        rintro r w7 ⟨rfl, he7⟩
        exact ⟨rfl, (hE3.transN he6).transN he7⟩
      · rintro vs g w5 ⟨rfl, he⟩
        exact ⟨rfl, he⟩
    · have hfree : t.Free o' := (how.q.mono fun o h => by rw [h]; exact ho'.symm).free
      refine (c_Put (mt := none) (n := 0) hct.tree hfree.sep hct.can.fine hct.leafy hw3.mt0 ho0 hx hk3 (by omega)).mono ?_
      rintro _ w5 ⟨t', n', rfl, hP, -⟩
      have he5 : Ext No w3 w5 := hP.res.ext.mono fun b _ hb => by rcases hb with hb | hb; cases hb; exact (hfree.foot b hb).elim
      have hw5 := hw3.extN he5
      have hblk5 := hblk3.ext he5 fun h => h
      have hct5 := hct.extN he5
      have hct' := hct.put hpr.rises hP
      have hE5 := hE3.transN he5
      have hpi : Pr (insK m k x) := hpr.ins (by omega) (by omega)
      refine xifF (by simp; omega) ?_
      refine hblk5.ld (v := kv) rfl ?_
      refine hk.len ?_
      refine xifF (by simp; omega) ?_
      refine xj (fun vs w' => vs = [.bool true] ∧ Ext No w w') ?_ ?_
      · refine xifT rfl ?_
        refine hblk5.ld (v := kv) rfl ?_
        refine hblk5.ld (v := u64 x) rfl ?_
        refine (c_r15Put (hps3.extN he5) (hk3.extN he5) hx hpr.many hpr.keys (by omega)).mono ?_
        rintro vp w6 ⟨hvp, he6⟩
        rw [← insK_sort m hpr.rises] at hvp
        refine (c_as (hw5.extN he6) (hct'.extN he6) hvp hpi).mono ?_
        rintro r w7 ⟨rfl, he7⟩
        refine xifT rfl ?_
        have he67 := he6.transN he7
        refine (c_as (hw5.extN he67) (hct5.extN he67) ((hps3.extN he5).extN he67) hpr).mono ?_
        rintro r w8 ⟨rfl, he8⟩
        refine xifT rfl ?_
        refine (c_alive ((hw5.extN he67).extN he8)).mono ?_
        rintro r w9 ⟨rfl, he9⟩
        exact ⟨rfl, ((hE5.transN he67).transN he8).transN he9⟩
      · rintro vs g w6 ⟨rfl, he⟩
        exact ⟨rfl, he⟩
end
end law15
end Go.Proofs.YtbneecjeifionaaGreatDoor
