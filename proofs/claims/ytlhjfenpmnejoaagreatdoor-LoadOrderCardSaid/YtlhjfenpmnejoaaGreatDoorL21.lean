/-  law21: alive; LoadSorts.  -/
import Derived.Test.YtlhjfenpmnejoaaGreatDoorSrt3
import Derived.Test.YtlhjfenpmnejoaaGreatDoorD21
import Derived.Test.YtlhjfenpmnejoaaGreatDoorRefV
import Derived.Test.YtlhjfenpmnejoaaGreatDoorSA
namespace Go.Proofs.YtlhjfenpmnejoaaGreatDoor
open Go Go.RowKit X
set_option linter.unusedSimpArgs false
set_option linter.unusedVariables false
set_option linter.unusedSectionVars false
variable [Floor]
namespace law21
abbrev aliveL : Kv := [([2], 5), ([1], 6), ([2], 7)]
theorem aliveL_s : sortK aliveL = [([1], 6), ([2], 7)] := by decide +kernel
section
variable {w : World} {v vk : Value} {l : Kv}
theorem Ps.lit {w : World} {b : Nat} {cells : List Value} {l : Kv} (h : Blk w b cells T_api_Pair) (hp : PC w l cells) : Ps w (.slice (some ⟨b, 0, none⟩) l.length l.length) l :=
  ⟨T_api_Pair, cells, .inl rfl, (h.sln hp.len).weak fun _ _ h => .inl h, hp⟩
set_option maxRecDepth 100000 in
set_option maxHeartbeats 1000000 in
theorem c_alive (hw : Lw w) : Ret P n_law21_alive [] w fun r w' => r = .bool true ∧ Ext No w w' := by
  refine W_law21_alive ?_
  show XNew w (([2] : Key).map bv) T_uint8 _
  refine xnew fun a1 w1 ha1 hb1 hz1 he1 => ?_
  show XNew w1 (([1] : Key).map bv) T_uint8 _
  refine xnew fun a2 w2 ha2 hb2 hz2 he2 => ?_
  show XNew w2 (([2] : Key).map bv) T_uint8 _
  refine xnew fun a3 w3 ha3 hb3 hz3 he3 => ?_
  show XNew w3 [.slice (some ⟨a1, 0, none⟩) 1 1, u64 5, .slice (some ⟨a2, 0, none⟩) 1 1, u64 6, .slice (some ⟨a3, 0, none⟩) 1 1, u64 7] T_api_Pair _
  refine xnew fun a4 w4 ha4 hb4 hz4 he4 => ?_
  have hE := ((he1.transN he2).transN he3).transN he4
  have k1 : Bs w4 (.slice (some ⟨a1, 0, none⟩) 1 1) [2] := (Bs.new (k := [2]) hb1).extN ((he2.transN he3).transN he4)
  have k2 : Bs w4 (.slice (some ⟨a2, 0, none⟩) 1 1) [1] := (Bs.new (k := [1]) hb2).extN (he3.transN he4)
  have k3 : Bs w4 (.slice (some ⟨a3, 0, none⟩) 1 1) [2] := (Bs.new (k := [2]) hb3).extN he4
  have hPC : PC w4 aliveL [.slice (some ⟨a1, 0, none⟩) 1 1, u64 5, .slice (some ⟨a2, 0, none⟩) 1 1, u64 6, .slice (some ⟨a3, 0, none⟩) 1 1, u64 7] :=
    (PC.sing k1 (by omega)).app ((PC.sing k2 (by omega)).app (PC.sing k3 (by omega)))
  have hPs := Ps.lit hb4 hPC
  have hw4 := hw.extN hE
  refine (c_loadSort hPs (by decide) (by decide) hw4.fl).mono ?_
  rintro vs w5 ⟨hvs, he5⟩
  rw [aliveL_s] at hvs
  have hw5 := hw4.extN he5
  refine (c_WNew (B := w5.heap.size) hw5 (Nat.le_refl _) hw5.fl).mono ?_
  rintro _ w6 ⟨rfl, hI6, he6⟩
  refine (c_Fresh hI6 (hPs.extN (he5.transN he6)) (by decide) (by decide) (by omega)).mono ?_
  rintro _ w7 ⟨v0, t0, rfl, -, -, hI7, hE7⟩
  rw [aliveL_s] at hI7
  have hv0 : updV (fun _ => none) v0 (t0, [([1], 6), ([2], 7)]) v0 = some (t0, [([1], 6), ([2], 7)]) := updV_same _ _ _
  generalize updV (fun _ => none) v0 (t0, [([1], 6), ([2], 7)]) = V at hI7 hv0
  show XNew w7 (([3] : Key).map bv) T_uint8 _
  refine xnew fun a8 w8 ha8 hb8 hz8 he8 => ?_
  show XNew w8 [.slice (some ⟨a8, 0, none⟩) 1 1, u64 8] T_api_Pair _
  refine xnew fun a9 w9 ha9 hb9 hz9 he9 => ?_
  have k4 : Bs w9 (.slice (some ⟨a8, 0, none⟩) 1 1) [3] := (Bs.new (k := [3]) hb8).extN he9
  have hPC9 : PC w9 [([3], 8)] [.slice (some ⟨a8, 0, none⟩) 1 1, u64 8] := PC.sing k4 (by omega)
  have hPs9 := Ps.lit hb9 hPC9
  refine (c_Merge ((hI7.extN he8).extN he9) hv0 hPs9 (by decide) (by decide) (by omega)).mono ?_
  rintro _ w10 ⟨hE10, v1, t1, n1, V1, rfl, hI10, hv1, hk10⟩
  have hi : insL [([1], 6), ([2], 7)] [([3], 8)] = [([1], 6), ([2], 7), ([3], 8)] := by decide +kernel
  rw [hi] at hv1
  have hvs10 := hE10.ps ((hE7.ps (hvs.extN he6)).extN (he8.transN he9))
  have hEE := ((hE7.transN he8).transN he9).trans hE10
  refine xj (fun vs w' => vs = [.bool true] ∧ Ext No w w') ?_ ?_
  · refine hvs10.len ?_
    refine xifT rfl ?_
    refine hvs10.val 0 rfl (by decide) ?_
    refine xifT rfl ?_
    refine hvs10.val 1 rfl (by decide) ?_
    refine xifT rfl ?_
    refine (c_VLen hI10 (hk10 _ _ hv0)).mono ?_
    rintro _ w11 ⟨rfl, hI11, hE11⟩
    refine xifT rfl ?_
    refine xifT rfl ?_
    refine (c_VLen hI11 hv1).mono ?_
    rintro _ w12 ⟨rfl, hI12, hE12⟩
    refine xifT rfl ?_
    refine ⟨rfl, ((hEE.trans hE11).trans hE12).start ((hE.transN he5).transN he6) (by have := (hE.transN he5).size; omega)⟩
  · rintro vs g w13 ⟨rfl, he⟩
    exact ⟨rfl, he⟩
theorem repL_z (n : Nat) : repL (cellsV (.int .u8 0)) n = (List.replicate n (0 : UInt8)).map bv := by
  rw [List.map_replicate]
  induction n with
  | zero => rfl
  | succ n ih => rw [List.replicate_succ, ← ih]; rfl
/-- a long key -/
theorem mkLong {w : World} {K : Value → World → Prop} (k : ∀ (b : Nat) (zk : Key) (w' : World), zk.length = 65536 → Bs w' (.slice (some ⟨b, 0, none⟩) 65536 65536) zk → Ext No w w' → K (.slice (some ⟨b, 0, none⟩) 65536 65536) w') :
    XRun P (Instr.makeSlice T_s_uint8 (.int .i64 65536) (.int .i64 65536)) w K := by
  refine make_own (n := 65536) (c := 65536) ei_u8 rfl rfl (Nat.le_refl _) (by omega) (by omega) fun b w1 hb hz hblk he => ?_
  rw [repL_z] at hblk
  generalize hzk : List.replicate 65536 (0 : UInt8) = zk at hblk
  have hl : zk.length = 65536 := by rw [← hzk, List.length_replicate]
  have := Bs.new hblk
  rw [hl] at this
  exact k b zk w1 hl this he
set_option maxRecDepth 100000 in
set_option maxHeartbeats 1000000 in
theorem l_LoadSorts (hw : Lw w) (hl : Ps w v l) (b : Bool) : Ret P n_law21_LoadSorts [v, .bool b] w fun r w' => r = .bool true ∧ Ext No w w' := by
  refine W_law21_LoadSorts ?_
  refine (c_far (m := 150) hl (by omega)).mono ?_
  rintro r w1 ⟨q, rfl, he1, hq⟩
  have hw1 := hw.extN he1
  cases q with
  | true =>
    refine xifT rfl ?_
    refine (c_alive hw1).mono ?_
    rintro r w2 ⟨rfl, he2⟩
    exact ⟨rfl, he1.transN he2⟩
  | false =>
    refine xifF rfl ?_
    obtain ⟨hl1, hl3⟩ := hq rfl
    have hl1' := hl.extN he1
    refine (c_WNew (B := w1.heap.size) hw1 (Nat.le_refl _) hw1.fl).mono ?_
    rintro _ w2 ⟨rfl, hI2, he2⟩
    have hl2 := hl1'.extN he2
    have he12 := he1.transN he2
    refine (c_pairsS hl2 (by omega)).mono ?_
    rintro va w3 ⟨hso, he3⟩
    have hs1 : w1.heap.size ≤ w2.heap.size := he2.size
    cases b with
    | true =>
      refine xj (fun vs w' => ∃ x l2, vs = [x] ∧ Ps w' x l2 ∧ (∃ p ∈ l2, 65535 < p.1.length) ∧ (∀ p ∈ l2, p.1.length ≤ 1000000) ∧ l2.length ≤ 151 ∧ Ext No w2 w') ?_ ?_
      · refine xifT rfl ?_
        refine mkLong fun b zk w4 hzk hkey he4 => ?_
        show XNew w4 [.slice (some ⟨b, 0, none⟩) 65536 65536, u64 0] T_api_Pair _
        refine xnew fun a w5 ha hbl hz5 he5 => ?_
        have hsl : Sl w5 (tyQ T_api_Pair) (.slice (some ⟨a, 0, none⟩) 1 1) 2 1 [.slice (some ⟨b, 0, none⟩) 65536 65536, u64 0] := hbl.sln rfl
        have hE35 := he4.transN he5
        have hE25 := he3.transN hE35
        refine PsO.app (m := [(zk, 0)]) ei_api (by decide) (Nat.le_trans hw1.fl hs1) hE25.size ((hso.extN hE35).pso hE25) hsl (PC.sing (hkey.extN he5) (by omega)) (by show l.length + 1 ≤ _; omega) fun v' w6 hO _ hE6 _ => ?_
        refine ⟨v', _, rfl, hO.ps (.inl rfl), ⟨_, List.mem_append_right _ (List.mem_singleton.2 rfl), by show 65535 < zk.length; omega⟩, fun p hp => ?_, by rw [List.length_append]; show l.length + 1 ≤ _; omega, hE6 w2 hE25 (Nat.le_refl _)⟩
        rcases List.mem_append.1 hp with h | h
        · have := hl3 p h; omega
        · rw [List.mem_singleton.1 h]; show zk.length ≤ _; omega
      rintro vs g w4 ⟨x, l2, rfl, hx, hbig, hkl, hlen, he4⟩
      refine (c_FreshBig (hI2.extN he4) hx hbig hkl (by omega) (by omega)).mono ?_
      rintro _ w5 ⟨rfl, hI5, hE5⟩
      refine xifT rfl ?_
      refine xj (fun vs w' => vs = [.bool true] ∧ Ext No w5 w') ?_ ?_
      · refine xifT rfl ?_
        refine xpeq_self T.nil ?_
        refine xifT rfl ?_
        refine (c_alive hI5.lw).mono ?_
        rintro _ w6 ⟨rfl, he6⟩
        exact ⟨rfl, he6⟩
      rintro vs g w6 ⟨rfl, he6⟩
      exact ⟨rfl, (hE5.start (he12.transN he4) (by have := he1.size; omega)).transN he6⟩
    | false =>
      refine xj (fun vs w' => vs = [va] ∧ w3 = w') (xifF rfl ⟨rfl, rfl⟩) ?_
      rintro vs g w4 ⟨rfl, rfl⟩
      have hva := hso.ps he3 (.inl rfl)
      have hkl : ∀ p ∈ l, p.1.length ≤ 65535 := fun p hp => by have := hl3 p hp; omega
      have hsl := sortK_length l
      have hpr : Pr (sortK l) := Pr.sort (by omega) hkl
      refine (c_Fresh (hI2.extN he3) hva hkl (by omega) (by omega)).mono ?_
      rintro _ w5 ⟨v0, t0, rfl, -, -, hI5, hE5⟩
      have hv5 : updV (fun _ => none) v0 (t0, sortK l) v0 = some (t0, sortK l) := updV_same _ _ _
      generalize updV (fun _ => none) v0 (t0, sortK l) = V at hI5 hv5
      refine xifF rfl ?_
      have hl5 := hE5.ps (hl2.extN he3)
      refine W_ref21_Sort ?_
      refine (c_rSort hl5 (by omega) (fun p hp => by have := hl3 p hp; omega)).mono ?_
      rintro vsd w6 ⟨hsd, he6⟩
      have hps6 := hsd.ps he6 (.inr rfl)
      have hva5 := hE5.ps hva
      have hf6 : Floor.n ≤ w6.heap.size := (hI5.extN he6).lw.fl
      refine (c_FreshN (hva5.extN he6) hkl (by omega) hf6).mono ?_
      rintro _ w7 ⟨rfl, he7⟩
      have hI7 := (hI5.extN he6).extN he7
      refine xj (fun vs w' => vs = [.bool true] ∧ Ext No w7 w') ?_ ?_
      · refine xifT rfl ?_
        have he57 := he6.transN he7
        have hps7 := hps6.extN he7
        refine (c_loadSort (hva5.extN he57) (by omega) (fun p hp => by have := hl3 p hp; omega) hI7.lw.fl).mono ?_
        rintro vx w8 ⟨hvx, he8⟩
        refine (c_same hvx (hps7.extN he8) (by omega) (by omega) hpr.keys).mono ?_
        rintro _ w9 ⟨rfl, he9⟩
        refine xifT (decide_eq_true rfl) ?_
        have he79 := he8.transN he9
        refine (c_same (hva5.extN (he57.transN he79)) (hl5.extN (he57.transN he79)) (by omega) (by omega) hkl).mono ?_
        rintro _ w10 ⟨rfl, he10⟩
        refine xifT (decide_eq_true rfl) ?_
        have he710 := he79.transN he10
        refine (c_VList (hI7.extN he710) hv5).mono ?_
        rintro vy w11 ⟨hvy, he11⟩
        refine (c_same hvy (hps7.extN (he710.transN he11)) (by omega) (by omega) hpr.keys).mono ?_
        rintro _ w12 ⟨rfl, he12⟩
        refine xifT (decide_eq_true rfl) ?_
        have he712 := (he710.transN he11).transN he12
        have hI12 := hI7.extN he712
        refine (c_VShape hI12 hv5).mono ?_
        rintro _ w13 ⟨rfl, he13⟩
        refine (c_rBuild (by omega) (hps7.extN (he712.transN he13)) hpr.rises hpr.keys).mono ?_
        rintro _ w14 ⟨e, cs, rfl, hrc, hcan, he14⟩
        have hct := (hI12.ver _ _ _ hv5).ct
        obtain rfl := hcan.uniq hct.can
        refine (c_rShape _ hrc hcan.fine (hct.tree.shapeLen hct.can hpr.rises hpr.many)).mono ?_
        rintro _ w15 ⟨rfl, he15⟩
        refine xseq ?_
        refine xifT (decide_eq_true rfl) ?_
        refine xifT rfl ?_
        have he715 := ((he712.transN he13).transN he14).transN he15
        refine (c_alive (hI7.extN he715).lw).mono ?_
        rintro _ w16 ⟨rfl, he16⟩
        exact ⟨rfl, he715.transN he16⟩
      · rintro vs g w8 ⟨rfl, he8⟩
        exact ⟨rfl, ((hE5.start (he12.transN he3) (by have := he1.size; omega)).transN (he6.transN he7)).transN he8⟩
end
end law21
end Go.Proofs.YtlhjfenpmnejoaaGreatDoor
