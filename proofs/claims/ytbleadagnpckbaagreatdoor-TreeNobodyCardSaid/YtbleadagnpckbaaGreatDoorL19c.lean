/-  law19: TreeNobody.  -/
import Derived.Test.YtbleadagnpckbaaGreatDoorL19
namespace Go.Proofs.YtbleadagnpckbaaGreatDoor
open Go Go.RowKit X
set_option linter.unusedSimpArgs false
set_option linter.unusedVariables false
set_option linter.unusedSectionVars false
variable [Floor]
/-- a version that nobody made -/
def VN (w : World) (v : Value) : Prop := v = .pointer none ∨ ∃ b, v = rp b ∧ Blk w b [.pointer none, .pointer none, .int .u32 0, .int .i32 0, .int .u32 0, .int .i64 0, .bool false] T_tree_Version
section
variable {w w1 : World} {v a b : Value} {k : Key}
theorem VN.extN (h : VN w v) (e : Ext No w w1) : VN w1 v := h.imp id fun ⟨b, h1, h2⟩ => ⟨b, h1, h2.ext e fun h => h⟩
theorem n_ok (h : VN w v) : Ret P n_tree_Version_ok [v] w fun r w' => r = .bool false ∧ w' = w := by
  refine W_tree_Version_ok ?_
  refine xj (fun vs w' => vs = [.bool false] ∧ w' = w) ?_ ?_
  · rcases h with rfl | ⟨b, rfl, hb⟩
    · exact xifF rfl ⟨rfl, rfl⟩
    · refine xifT rfl ?_
      refine hb.ld (v := .pointer none) rfl ?_
      exact ⟨rfl, rfl⟩
  · rintro vs g w' ⟨rfl, rfl⟩
    exact ⟨rfl, rfl⟩
theorem n_put (h : VN w v) : Ret P n_tree_Version_Put [v, a, b] w fun r w' => r = .tuple #[.pointer none, .int .i64 2] ∧ w' = w := by
  refine W_tree_Version_Put ?_
  refine (n_ok h).mono ?_
  rintro _ w1 ⟨rfl, rfl⟩
  exact xifT rfl ⟨rfl, rfl⟩
theorem n_del (h : VN w v) : Ret P n_tree_Version_Del [v, a] w fun r w' => r = .tuple #[.pointer none, .bool false, .int .i64 2] ∧ w' = w := by
  refine W_tree_Version_Del ?_
  refine (n_ok h).mono ?_
  rintro _ w1 ⟨rfl, rfl⟩
  exact xifT rfl ⟨rfl, rfl⟩
theorem n_sub (h : VN w v) : Ret P n_tree_Version_Sub [v, a] w fun r w' => r = .tuple #[.pointer none, .int .i64 2] ∧ w' = w := by
  refine W_tree_Version_Sub ?_
  refine (n_ok h).mono ?_
  rintro _ w1 ⟨rfl, rfl⟩
  exact xifT rfl ⟨rfl, rfl⟩
theorem n_strip (h : VN w v) : Ret P n_tree_Version_Strip [v, a] w fun r w' => r = .tuple #[.pointer none, .int .i64 2] ∧ w' = w := by
  refine W_tree_Version_Strip ?_
  refine (n_ok h).mono ?_
  rintro _ w1 ⟨rfl, rfl⟩
  exact xifT rfl ⟨rfl, rfl⟩
theorem n_under (h : VN w v) : Ret P n_tree_Version_Under [v, a] w fun r w' => r = .tuple #[.pointer none, .int .i64 2] ∧ w' = w := by
  refine W_tree_Version_Under ?_
  refine (n_ok h).mono ?_
  rintro _ w1 ⟨rfl, rfl⟩
  exact xifT rfl ⟨rfl, rfl⟩
theorem n_root (h : VN w v) : Ret P n_tree_Version_Root [v] w fun r w' => r = T.nil.v ∧ w' = w := by
  refine W_tree_Version_Root ?_
  rcases h with rfl | ⟨b, rfl, hb⟩
  · exact xifT rfl ⟨rfl, rfl⟩
  · refine xifF rfl ?_
    exact hb.ld (v := .pointer none) rfl ⟨rfl, rfl⟩
theorem n_world (h : VN w v) : Ret P n_tree_Version_World [v] w fun r w' => r = .pointer none ∧ w' = w := by
  refine W_tree_Version_World ?_
  rcases h with rfl | ⟨b, rfl, hb⟩
  · exact xifT rfl ⟨rfl, rfl⟩
  · refine xifF rfl ?_
    exact hb.ld (v := .pointer none) rfl ⟨rfl, rfl⟩
/-- nothing has no key, however long -/
theorem c_GetNil (hk : Bs w a k) : Ret P n_find_Get [T.nil.v, a] w fun v w' => v = .tuple #[.int .u64 0, .bool false] ∧ Ext No w w' := by
  refine W_find_Get ?_
  obtain ⟨ka, kc, rfl⟩ := hk.slice
  refine xnew fun wb w1 hb hblk hz he => ?_
  have hblk : Blk w1 wb [T.nil.v, .slice ka k.length kc, .int .i64 0, .int .i64 0] T_find_walk := hblk
  refine xloop (fun nn vs w' => ∃ (x y : Value), vs = [x, y] ∧ w' = w1) 0 ⟨_, _, rfl, rfl⟩ ?_
  rintro nn vs g w2 ⟨x, y, rfl, rfl⟩
  unfold S_find_Get_l1
  refine W_find_walk_into ?_
  refine hblk.ld (v := .pointer none) rfl ?_
  refine xifT rfl ?_
  exact xifF rfl ⟨rfl, he⟩
theorem n_get (h : VN w v) (hk : Bs w a k) : Ret P n_tree_Version_Get [v, a] w fun r w' => r = .tuple #[.int .u64 0, .bool false] ∧ Ext No w w' := by
  refine W_tree_Version_Get ?_
  refine (n_root h).mono ?_
  rintro _ w1 ⟨rfl, rfl⟩
  refine (c_GetNil hk).mono ?_
  rintro _ w2 ⟨rfl, he⟩
  exact ⟨rfl, he⟩
theorem n_list (h : VN w v) : Ret P n_tree_Version_List [v] w fun r w' => Ps w' r [] ∧ Ext No w w' := by
  refine W_tree_Version_List ?_
  refine (n_root h).mono ?_
  rintro _ w1 ⟨rfl, rfl⟩
  refine (c_List (t := .nil) trivial (by simp [T.er, E.long]) (by simp [T.er, E.list])).mono ?_
  rintro r w2 ⟨hps, he⟩
  exact ⟨hps.ps (.inl rfl), he⟩
theorem n_shape (hT : Tab w) (h : VN w v) : Ret P n_tree_Version_Shape [v] w fun r w' => r = str [46] ∧ Ext No w w' := by
  refine W_tree_Version_Shape ?_
  refine (n_root h).mono ?_
  rintro _ w1 ⟨rfl, rfl⟩
  exact c_Shape (t := .nil) hT trivial trivial (by simp [T.er, E.shape])
theorem n_from : Ret P n_tree_World_From [.pointer none, a] w fun r w' => r = .tuple #[.pointer none, .int .i64 2] ∧ w' = w := by
  refine W_tree_World_From ?_
  exact xifT rfl ⟨rfl, rfl⟩
theorem n_meter : Ret P n_tree_World_Meter [.pointer none] w fun r w' => r = .pointer none ∧ w' = w := by
  refine W_tree_World_Meter ?_
  exact xifT rfl ⟨rfl, rfl⟩
theorem n_count : Ret P n_meter_Meter_Count [.pointer none] w fun r w' => r = .int .i64 0 ∧ w' = w := by
  refine W_meter_Meter_Count ?_
  exact xifT rfl ⟨rfl, rfl⟩
theorem n_made : Ret P n_tree_World_Made [.pointer none] w fun r w' => r = .int .i64 0 ∧ w' = w := by
  refine W_tree_World_Made ?_
  refine n_meter.mono ?_
  rintro _ w2 ⟨rfl, rfl⟩
  refine n_count.mono ?_
  rintro _ w3 ⟨rfl, rfl⟩
  exact ⟨rfl, rfl⟩
theorem n_owner : Ret P n_tree_World_Owner [.pointer none] w fun r w' => r = .int .u64 0 ∧ w' = w := by
  refine W_tree_World_Owner ?_
  exact xifT rfl ⟨rfl, rfl⟩
theorem n_version : Ret P n_tree_World_Version [.pointer none, a] w fun r w' => r = .pointer none ∧ w' = w := by
  refine W_tree_World_Version ?_
  exact xifT rfl ⟨rfl, rfl⟩
theorem n_len (h : VN w v) : Ret P n_tree_Version_Len [v] w fun r w' => r = .int .i64 0 ∧ Ext No w w' := by
  refine W_tree_Version_Len ?_
  have hc : cellsV v = [v] := by rcases h with rfl | ⟨b, rfl, hb⟩ <;> rfl
  show XNew w (cellsV v) _ _
  rw [hc]
  refine xnew fun a1 w1 ha1 hb1 hz1 he1 => ?_
  refine hb1.ld (v := v) rfl ?_
  refine (n_ok (h.extN he1)).mono ?_
  rintro _ w2 ⟨rfl, rfl⟩
  exact xifT rfl ⟨rfl, he1⟩
end
namespace law19
section
variable {w : World} {vk : Value} {k : Key} {x : Nat}
theorem l_TreeNobody (hw : Lw w) (hk : Bs w vk k) (hx : x < 18446744073709551616) : Ret P n_law19_TreeNobody [vk, u64 x] w fun r w' => r = .bool true ∧ Ext No w w' := by
  refine W_law19_TreeNobody ?_
  refine n_from.mono ?_
  rintro _ w1 ⟨rfl, rfl⟩
  refine xj (fun vs w' => vs = [.bool false] ∧ w' = w1) ?_ ?_
  · refine n_made.mono ?_
    rintro _ w2 ⟨rfl, rfl⟩
    refine xifF rfl ?_
    refine n_owner.mono ?_
    rintro _ w3 ⟨rfl, rfl⟩
    refine xifF rfl ?_
    refine n_meter.mono ?_
    rintro _ w4 ⟨rfl, rfl⟩
    refine n_count.mono ?_
    rintro _ w5 ⟨rfl, rfl⟩
    refine xifF rfl ?_
    refine n_version.mono ?_
    rintro _ w6 ⟨rfl, rfl⟩
    refine xifF rfl ?_
    refine xifF rfl ?_
    exact ⟨rfl, rfl⟩
  rintro vs g w2 ⟨rfl, rfl⟩
  refine xifF rfl ?_
  show XNew w2 [.pointer none, .pointer none, .int .u32 0, .int .i32 0, .int .u32 0, .int .i64 0, .bool false] T_tree_Version _
  refine xnew fun a1 w3 ha1 hb1 hz1 he1 => ?_
  show XNew w3 [.pointer none, rp a1] T_p_tree_Version _
  refine xnew fun a2 w4 ha2 hb2 hz2 he2 => ?_
  have he4 := he1.transN he2
  have hb1 := hb1.ext he2 fun h => h
  refine xloop (fun n vs w' => ∃ (i : Nat) (y1 y2 y3 y4 y5 y6 y7 y8 y9 y10 y11 y12 y14 y15 : Value), vs = [.int .i64 i, y1, y2, y3, y4, y5, y6, y7, y8, y9, y10, y11, y12, .bool false, y14, y15] ∧ n = 2 - i ∧ i ≤ 2 ∧ Ext No w4 w') 2 ⟨0, _, _, _, _, _, _, _, _, _, _, _, _, _, _, rfl, rfl, by omega, Ext.refl _ _⟩ ?_
  rintro n vs g w5 ⟨i, y1, y2, y3, y4, y5, y6, y7, y8, y9, y10, y11, y12, y14, y15, rfl, rfl, hi, he5⟩
  unfold S_law19_TreeNobody_l1
  have hE5 := he4.transN he5
  refine xifD (fun hlt => ?_) fun hge => ?_
  · have hi2 : i < 2 := by omega
    have hv : ∃ v, [Value.pointer none, rp a1][i]? = some v ∧ VN w5 v := by
      match i, hi2 with
      | 0, _ => exact ⟨_, rfl, .inl rfl⟩
      | 1, _ => exact ⟨_, rfl, .inr ⟨a1, rfl, hb1.ext he5 fun h => h⟩⟩
    obtain ⟨v, hvi, hv⟩ := hv
    have hsl : Sl w5 (tyQ T_p_tree_Version) (.slice (some ⟨a2, 0, none⟩) 2 2) 1 2 [.pointer none, rp a1] := (hb2.ext he5 fun h => h).sln rfl
    refine hsl.rd1 i rfl hi2 hvi ?_
    refine (n_put hv).mono ?_
    rintro _ w6 ⟨rfl, rfl⟩
    refine (n_del hv).mono ?_
    rintro _ w7 ⟨rfl, rfl⟩
    refine (n_sub hv).mono ?_
    rintro _ w8 ⟨rfl, rfl⟩
    refine (n_strip hv).mono ?_
    rintro _ w9 ⟨rfl, rfl⟩
    refine (n_under hv).mono ?_
    rintro _ w10 ⟨rfl, rfl⟩
    refine xj (fun vs w' => vs = [.bool false] ∧ w' = w10) ?_ ?_
    · refine xifF rfl ?_
      refine xifF rfl ?_
      refine xifF rfl ?_
      refine xifF rfl ?_
      refine xifF rfl ?_
      refine xifF rfl ?_
      refine xifF rfl ?_
      refine xifF rfl ?_
      refine xifF rfl ?_
      refine xifF rfl ?_
      exact ⟨rfl, rfl⟩
    rintro vs g w11 ⟨rfl, rfl⟩
    refine xifF rfl ?_
    have hw11 := hw.extN hE5
    refine (n_get hv (hk.extN hE5)).mono ?_
    rintro _ w12 ⟨rfl, he12⟩
    have hv12 := hv.extN he12
    refine xj (fun vs w' => vs = [.bool false] ∧ Ext No w12 w') ?_ ?_
    · refine xifF rfl ?_
      refine xifF rfl ?_
      refine (n_len hv12).mono ?_
      rintro _ w13 ⟨rfl, he13⟩
      refine (n_list (hv12.extN he13)).mono ?_
      rintro vl w14 ⟨hps, he14⟩
      refine hps.len ?_
      refine xi (r := (0 : Int)) (by simp [IntKind.wrap_i64]) ?_
      refine xifF rfl ?_
      have he1214 := he13.transN he14
      refine (n_shape ((hw11.extN he12).extN he1214).tab (hv12.extN he1214)).mono ?_
      rintro _ w15 ⟨rfl, he15⟩
      refine xsne ?_
      rw [decide_eq_true rfl]
      refine xifF rfl ?_
      have he1215 := he1214.transN he15
      refine (n_world (hv12.extN he1215)).mono ?_
      rintro _ w16 ⟨rfl, rfl⟩
      refine xifF rfl ?_
      refine (n_root (hv12.extN he1215)).mono ?_
      rintro _ w17 ⟨rfl, rfl⟩
      exact ⟨rfl, he1215⟩
    rintro vs g w13 ⟨rfl, he13⟩
    refine xifF rfl ?_
    refine xi (r := ((i + 1 : Nat) : Int)) (by rw [wrapI (by omega)]; omega) ?_
    exact xnext (2 - (i + 1)) (by omega) ⟨i + 1, _, _, _, _, _, _, _, _, _, _, _, _, _, _, rfl, rfl, by omega, (he5.transN he12).transN he13⟩
  · refine (c_alive (hw.extN hE5)).mono ?_
    rintro _ w6 ⟨rfl, he6⟩
    exact ⟨rfl, hE5.transN he6⟩
end
end law19
end Go.Proofs.YtbleadagnpckbaaGreatDoor
