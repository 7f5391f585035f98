/-  law21: alive; LoadSorts.  -/
import Derived.Test.YtlhjfenpmnejoaaGreatSrt3
import Derived.Test.YtlhjfenpmnejoaaGreatD21
import Derived.Test.YtlhjfenpmnejoaaGreatRefV
import Derived.Test.YtlhjfenpmnejoaaGreatSA
namespace Go.Proofs.YtlhjfenpmnejoaaGreat
open Go Go.RowKit X
set_option linter.unusedSimpArgs false
set_option linter.unusedVariables false
set_option linter.unusedSectionVars false
variable [Floor]
namespace law21
abbrev aliveL : Kv := [([2], 5), ([1], 6), ([2], 7)]
theorem aliveL_s : sortK aliveL = [([1], 6), ([2], 7)] := by decide +kernel
section
variable {w : World} {v vk : Value} {l : Kv}
theorem Ps.lit {w : World} {b : Nat} {cells : List Value} {l : Kv} (h : Blk w b cells T_api_Pair) (hp : PC w l cells) : Ps w (.slice (some ⟨b, 0, none⟩) l.length l.length) l :=
  ⟨T_api_Pair, cells, .inl rfl, (h.sln hp.len).weak fun _ _ h => .inl h, hp⟩
set_option maxRecDepth 100000 in
set_option maxHeartbeats 1000000 in
theorem c_alive (hw : Lw w) : Ret P n_law21_alive [] w fun r w' => r = .bool true ∧ Ext No w w' := by
  refine W_law21_alive ?_
  show XNew w (([2] : Key).map bv) T_uint8 _
  refine xnew fun a1 w1 ha1 hb1 hz1 he1 => ?_
  show XNew w1 (([1] : Key).map bv) T_uint8 _
  refine xnew fun a2 w2 ha2 hb2 hz2 he2 => ?_
  show XNew w2 (([2] : Key).map bv) T_uint8 _
  refine xnew fun a3 w3 ha3 hb3 hz3 he3 => ?_
  show XNew w3 [.slice (some ⟨a1, 0, none⟩) 1 1, u64 5, .slice (some ⟨a2, 0, none⟩) 1 1, u64 6, .slice (some ⟨a3, 0, none⟩) 1 1, u64 7] T_api_Pair _
  refine xnew fun a4 w4 ha4 hb4 hz4 he4 => ?_
  have hE := ((he1.transN he2).transN he3).transN he4
  have k1 : Bs w4 (.slice (some ⟨a1, 0, none⟩) 1 1) [2] := (Bs.new (k := [2]) hb1).extN ((he2.transN he3).transN he4)
  have k2 : Bs w4 (.slice (some ⟨a2, 0, none⟩) 1 1) [1] := (Bs.new (k := [1]) hb2).extN (he3.transN he4)
  have k3 : Bs w4 (.slice (some ⟨a3, 0, none⟩) 1 1) [2] := (Bs.new (k := [2]) hb3).extN he4
  have hPC : PC w4 aliveL [.slice (some ⟨a1, 0, none⟩) 1 1, u64 5, .slice (some ⟨a2, 0, none⟩) 1 1, u64 6, .slice (some ⟨a3, 0, none⟩) 1 1, u64 7] :=
    (PC.sing k1 (by omega)).app ((PC.sing k2 (by omega)).app (PC.sing k3 (by omega)))
  have hPs := Ps.lit hb4 hPC
  have hw4 := hw.extN hE
  refine (c_loadSort hPs (by decide) (by decide) hw4.fl).mono ?_
  rintro vs w5 ⟨hvs, he5⟩
  rw [aliveL_s] at hvs
  have hw5 := hw4.extN he5
  refine (c_WNew (B := w5.heap.size) hw5 (Nat.le_refl _) hw5.fl).mono ?_
  rintro _ w6 ⟨rfl, hI6, he6⟩
  refine (c_Fresh hI6 (hPs.extN (he5.transN he6)) (by decide) (by decide) (by omega)).mono ?_
  rintro _ w7 ⟨v0, t0, rfl, -, -, hI7, hE7⟩
  rw [aliveL_s] at hI7
  have hv0 : updV (fun _ => none) v0 (t0, [([1], 6), ([2], 7)]) v0 = some (t0, [([1], 6), ([2], 7)]) := updV_same _ _ _
  generalize updV (fun _ => none) v0 (t0, [([1], 6), ([2], 7)]) = V at hI7 hv0
  show XNew w7 (([3] : Key).map bv) T_uint8 _
  refine xnew fun a8 w8 ha8 hb8 hz8 he8 => ?_
  show XNew w8 [.slice (some ⟨a8, 0, none⟩) 1 1, u64 8] T_api_Pair _
  refine xnew fun a9 w9 ha9 hb9 hz9 he9 => ?_
  have k4 : Bs w9 (.slice (some ⟨a8, 0, none⟩) 1 1) [3] := (Bs.new (k := [3]) hb8).extN he9
  have hPC9 : PC w9 [([3], 8)] [.slice (some ⟨a8, 0, none⟩) 1 1, u64 8] := PC.sing k4 (by omega)
  have hPs9 := Ps.lit hb9 hPC9
  refine (c_Merge ((hI7.extN he8).extN he9) hv0 hPs9 (by decide) (by decide) (by omega)).mono ?_
  rintro _ w10 ⟨hE10, v1, t1, n1, V1, rfl, hI10, hv1, hk10⟩
  have hi : insL [([1], 6), ([2], 7)] [([3], 8)] = [([1], 6), ([2], 7), ([3], 8)] := by decide +kernel
  rw [hi] at hv1
  have hvs10 := hE10.ps ((hE7.ps (hvs.extN he6)).extN (he8.transN he9))
  have hEE := ((hE7.transN he8).transN he9).trans hE10
  refine xj (fun vs w' => vs = [.bool true] ∧ Ext No w w') ?_ ?_
  · refine hvs10.len ?_
    refine xifT rfl ?_
    refine hvs10.val 0 rfl (by decide) ?_
    refine xifT rfl ?_
    refine hvs10.val 1 rfl (by decide) ?_
    refine xifT rfl ?_
    refine (c_VLen hI10 (hk10 _ _ hv0)).mono ?_
    rintro _ w11 ⟨rfl, hI11, hE11⟩
    refine xifT rfl ?_
    refine xifT rfl ?_
    refine (c_VLen hI11 hv1).mono ?_
    rintro _ w12 ⟨rfl, hI12, hE12⟩
    refine xifT rfl ?_
    refine ⟨rfl, ((hEE.trans hE11).trans hE12).start ((hE.transN he5).transN he6) (by have := (hE.transN he5).size; omega)⟩
  · rintro vs g w13 ⟨rfl, he⟩
    exact ⟨rfl, he⟩
theorem repL_z (n : Nat) : repL (cellsV (.int .u8 0)) n = (List.replicate n (0 : UInt8)).map bv := by
  rw [List.map_replicate]
  induction n with
  | zero => rfl
  | succ n ih => rw [List.replicate_succ, ← ih]; rfl
/-- a long key -/
theorem mkLong {w : World} {K : Value → World → Prop} (k : ∀ (b : Nat) (zk : Key) (w' : World), zk.length = 65536 → Bs w' (.slice (some ⟨b, 0, none⟩) 65536 65536) zk → Ext No w w' → K (.slice (some ⟨b, 0, none⟩) 65536 65536) w') :
    XRun P (Instr.makeSlice T_s_uint8 (.int .i64 65536) (.int .i64 65536)) w K := by
  refine make_own (n := 65536) (c := 65536) ei_u8 rfl rfl (Nat.le_refl _) (by omega) (by omega) fun b w1 hb hz hblk he => ?_
  rw [repL_z] at hblk
  generalize hzk : List.replicate 65536 (0 : UInt8) = zk at hblk
  have hl : zk.length = 65536 := by rw [← hzk, List.length_replicate]
  have := Bs.new hblk
  rw [hl] at this
  exact k b zk w1 hl this he
end
end law21
end Go.Proofs.YtlhjfenpmnejoaaGreat
