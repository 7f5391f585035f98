/-  versions beside transients; transients that nobody made.  -/
import Derived.Test.YtlhjfenpmnejoaaGreatTr2
namespace Go.Proofs.YtlhjfenpmnejoaaGreat
open Go Go.RowKit X
set_option linter.unusedSimpArgs false
set_option linter.unusedVariables false
set_option linter.unusedSectionVars false
variable [Floor]
theorem insK_same {l : Kv} (h : Rises l) {k : Key} {x : Nat} (hk : look l k = some x) : insK l k x = l :=
  (insK_rises h k x).ext h fun k' => by
    rw [insK_look h]
    split
    · rename_i e; subst e; exact hk.symm
    · rfl
theorem dropK_none {l : Kv} (h : Rises l) {k : Key} (hk : look l k = none) : dropK k l = l := by
  have h1 : Rises (dropK k l) := List.Pairwise.filter _ h
  exact h1.ext h fun k' => by
    rw [look_drop]
    split
    · rename_i e; subst e; exact hk.symm
    · rfl
section
variable {B : Nat} {w w1 w2 : World} {wb n j vb tb : Nat} {t : T} {l : Kv} {V : Nat → Option (T × Kv)} {M : Nat → Option TrR} {F : Nat → Prop} {r : TrR} {k : Key} {vk : Value} {x : Nat}
theorem TI.of (h : VI B w wb n j V) : TI B w wb n j V (fun _ => Option.none) (fun _ => False) := ⟨h, (fun _ _ h => by cases h), (fun _ h => h.elim), (fun _ _ h => by cases h)⟩
theorem VI.less {V' : Nat → Option (T × Kv)} (h : VI B w wb n j V') (hs : ∀ vb x, V vb = some x → V' vb = some x) : VI B w wb n j V := ⟨h.lw, h.fl, h.mt, h.ge, fun vb t l hv => h.ver vb t l (hs vb _ hv)⟩
theorem updV_keep {v0 : Nat} {y z : T × Kv} (hn : V vb = none) (h : V v0 = some y) : updV V vb z v0 = some y := by
  rw [updV_other fun e => by subst e; rw [hn] at h; cases h]
  exact h
end
section
variable {B : Nat} {w w1 w2 : World} {wb n j vb tb : Nat} {t : T} {l : Kv} {V : Nat → Option (T × Kv)} {M : Nat → Option TrR} {F : Nat → Prop} {r : TrR} {k : Key} {vk : Value} {x : Nat}
theorem VE.blk {b : Nat} {cs : List Value} {T : TypeId} (h : VE B w w1) (hb : Blk w b cs T) (hT : ¬ VTy T) : Blk w1 b cs T := by
  obtain ⟨Y, e, hn, -⟩ := h.out
  refine hb.ext e fun hy => ?_
  obtain ⟨-, cs', T', h1, h2⟩ := hn b hy hb.lt
  exact hT ((hb.inj h1).2 ▸ h2)
theorem nvty_pair : ¬ VTy T_ref01_Pair := by unfold VTy KT; decide
theorem Ct.shapes {t t' : T} {l l' : Kv} (h : Ct w t l) (h' : Ct w1 t' l') (e : l = l') : t.er.shape = t'.er.shape := by
  subst e
  rw [h.can.uniq h'.can]
theorem delM_other {M : Nat → Option TrR} {tb b : Nat} (h : b ≠ tb) : delM M tb b = M b := by simp [delM, h]
/-- freezing, in short -/
theorem c_TFreezeE (h : TI B w wb n j V M F) (hr : M tb = some r) :
    Ret P n_trans_Trans_Freeze [rp tb] w fun v w' => VE B w w' ∧ ∃ vb' V' t', v = .tuple #[rp vb', .int .i64 0] ∧ TI B w' wb n j V' (delM M tb) (fun b => b = tb ∨ F b) ∧ V' vb' = some (t', r.l) ∧ (∀ b y, V b = some y → V' b = some y) ∧ (∀ t0 l0, V r.vb = some (t0, l0) → r.t.ptr = t0.ptr → vb' = r.vb) ∧ (∀ b, V b = none → V' b = none ∨ b = vb') := by
  refine (c_TFreeze h hr).mono ?_
  rintro _ w1 ⟨hE, vb', rfl, ⟨rfl, ⟨t0, hv, -⟩, hT⟩ | ⟨hne, hn, -, hT⟩⟩
  · exact ⟨hE, _, V, t0, rfl, hT, hv, fun _ _ h => h, fun _ _ _ _ => rfl, fun b hb => .inl hb⟩
  · refine ⟨hE, vb', _, _, rfl, hT, updV_same _ _ _, fun b y hb => updV_keep hn hb, fun t0 l0 h1 h2 => absurd h2 (hne t0 l0 h1), fun b hb => ?_⟩
    by_cases e : b = vb'
    · exact .inr e
    · exact .inl (by rw [updV_other e]; exact hb)
end
/-! transients that nobody made -/
section
variable {w : World} {v y z : Value}
def MayN (w : World) (v : Value) : Prop := Ret P n_trans_Trans_may [v] w fun r w' => r = .int .i64 2 ∧ w' = w
theorem mayN_nil : MayN w (.pointer none) := by
  refine W_trans_Trans_may ?_
  refine xj (fun vs w' => vs = [.bool true] ∧ w = w') (xifT rfl ⟨rfl, rfl⟩) ?_
  rintro vs g w1 ⟨rfl, rfl⟩
  exact xifT rfl ⟨rfl, rfl⟩
theorem mayN_zero {b : Nat} {cs : List Value} {T : TypeId} (hb : Blk w b (.pointer none :: cs) T) : MayN w (rp b) := by
  refine W_trans_Trans_may ?_
  refine xj (fun vs w' => vs = [.bool true] ∧ w = w') ?_ ?_
  · refine xifF rfl ?_
    exact hb.ld (o := 0) (v := .pointer none) rfl ⟨rfl, rfl⟩
  rintro vs g w1 ⟨rfl, rfl⟩
  exact xifT rfl ⟨rfl, rfl⟩
theorem c_TDelN (h : MayN w v) : Ret P n_trans_Trans_Del [v, y] w fun r w' => r = .tuple #[.bool false, .int .i64 2] ∧ w' = w := by
  refine W_trans_Trans_Del ?_
  refine Ret.mono h ?_
  rintro _ w1 ⟨rfl, rfl⟩
  exact xifT rfl ⟨rfl, rfl⟩
theorem c_TLenN (h : MayN w v) : Ret P n_trans_Trans_Len [v] w fun r w' => r = .tuple #[.int .i64 0, .int .i64 2] ∧ w' = w := by
  refine W_trans_Trans_Len ?_
  refine Ret.mono h ?_
  rintro _ w1 ⟨rfl, rfl⟩
  exact xifT rfl ⟨rfl, rfl⟩
theorem c_TListN (h : MayN w v) : Ret P n_trans_Trans_List [v] w fun r w' => r = .tuple #[.slice none 0 0, .int .i64 2] ∧ w' = w := by
  refine W_trans_Trans_List ?_
  refine Ret.mono h ?_
  rintro _ w1 ⟨rfl, rfl⟩
  exact xifT rfl ⟨rfl, rfl⟩
theorem c_TFreezeN (h : MayN w v) : Ret P n_trans_Trans_Freeze [v] w fun r w' => r = .tuple #[.pointer none, .int .i64 2] ∧ w' = w := by
  refine W_trans_Trans_Freeze ?_
  refine Ret.mono h ?_
  rintro _ w1 ⟨rfl, rfl⟩
  exact xifT rfl ⟨rfl, rfl⟩
theorem c_TPutN (h : MayN w v) : Ret P n_trans_Trans_Put [v, y, z] w fun r w' => r = .int .i64 2 ∧ w' = w := by
  refine W_trans_Trans_Put ?_
  refine Ret.mono h ?_
  rintro _ w1 ⟨rfl, rfl⟩
  exact xifT rfl ⟨rfl, rfl⟩
/-- owner and frozenness of nobody's transient -/
def NoTr (w : World) (v : Value) : Prop := v = .pointer none ∨ ∃ b, v = rp b ∧ Blk w b [.pointer none, .int .u64 0, .pointer none, .int .i64 0, .bool false] T_trans_Trans
theorem NoTr.may (h : NoTr w v) : MayN w v := by
  rcases h with rfl | ⟨b, rfl, hb⟩
  · exact mayN_nil
  · exact mayN_zero hb
/-- no transient of a version that nobody made -/
theorem c_EditN {v : Value} (h : v = .pointer none ∨ ∃ b cs T, v = rp b ∧ Blk w b (.pointer none :: cs) T) : Ret P n_trans_Edit [v] w fun r w' => r = .tuple #[.pointer none, .int .i64 2] ∧ w' = w := by
  have hW : Ret P n_tree_Version_World [v] w fun r w' => r = .pointer none ∧ w' = w := by
    refine W_tree_Version_World ?_
    rcases h with rfl | ⟨b, cs, T, rfl, hb⟩
    · exact xifT rfl ⟨rfl, rfl⟩
    · refine xifF rfl ?_
      exact hb.ld (o := 0) (v := .pointer none) rfl ⟨rfl, rfl⟩
  refine W_trans_Edit ?_
  refine hW.mono ?_
  rintro _ w1 ⟨rfl, rfl⟩
  exact xifT rfl ⟨rfl, rfl⟩
theorem X.Blk.ixS {b m n : Nat} {cs : List Value} {T : TypeId} {v : Value} {kd : IntKind} {i : Int} {K : Value → Prop} (h : Blk w b cs T) (hi : i = (m : Int)) (hm : m < n) (hv : cs[m]? = some v) (k : K v) :
    xIxS (.slice (some ⟨b, 0, none⟩) n n) (.int kd i) 1 fun u => xAt u fun a => XLd w a K := by
  refine ⟨m, hi, hm, ?_⟩
  show XLd w ((⟨b, 0, none⟩ : Addr).add (m * 1)) K
  rw [Nat.mul_one, Addr.add_lit, Nat.zero_add]
  exact h.ld hv k
end
end Go.Proofs.YtlhjfenpmnejoaaGreat
