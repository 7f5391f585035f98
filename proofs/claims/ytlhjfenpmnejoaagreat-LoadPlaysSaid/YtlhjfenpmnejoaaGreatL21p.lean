/-  law21: LoadPlays.  -/
import Derived.Test.YtlhjfenpmnejoaaGreatL21
namespace Go.Proofs.YtlhjfenpmnejoaaGreat
open Go Go.RowKit X
set_option linter.unusedSimpArgs false
set_option linter.unusedVariables false
set_option linter.unusedSectionVars false
/-- what is left of pairs without keys, and how many of the keys were there -/
def dropL (m : Kv) (ks : List Key) : Kv := ks.foldl (fun s k => dropK k s) m
def hadL : Kv → List Key → Nat
  | _, [] => 0
  | m, k :: r => (if (look m k).isSome then 1 else 0) + hadL (dropK k m) r
theorem dropL_snoc (m : Kv) (ks : List Key) (k : Key) : dropL m (ks ++ [k]) = dropK k (dropL m ks) := by unfold dropL; rw [List.foldl_append]; rfl
theorem hadL_snoc (m : Kv) (ks : List Key) (k : Key) : hadL m (ks ++ [k]) = hadL m ks + if (look (dropL m ks) k).isSome then 1 else 0 := by
  induction ks generalizing m with
  | nil =>
    rw [List.nil_append, hadL, hadL, hadL, show dropL m [] = m from rfl]; omega
  | cons x r ih =>
    rw [List.cons_append, hadL, hadL, ih, show dropL m (x :: r) = dropL (dropK x m) r from rfl]; omega
theorem dropL_take {m : Kv} {ks : List Key} {i : Nat} (h : i < ks.length) : dropL m (ks.take (i + 1)) = dropK ks[i] (dropL m (ks.take i)) := by
  rw [← List.take_append_getElem h, dropL_snoc]
theorem hadL_take {m : Kv} {ks : List Key} {i : Nat} (h : i < ks.length) : hadL m (ks.take (i + 1)) = hadL m (ks.take i) + if (look (dropL m (ks.take i)) ks[i]).isSome then 1 else 0 := by
  rw [← List.take_append_getElem h, hadL_snoc]
theorem hadL_le (m : Kv) (ks : List Key) : hadL m ks ≤ ks.length := by
  induction ks generalizing m with
  | nil => simp [hadL]
  | cons x r ih =>
    rw [hadL, List.length_cons]
    have := ih (dropK x m)
    split <;> omega
theorem dropL_mem {m : Kv} {ks : List Key} {p : Key × Nat} (h : p ∈ dropL m ks) : p ∈ m := by
  induction ks generalizing m with
  | nil => exact h
  | cons x r ih => exact (List.mem_filter.1 (ih h)).1
theorem dropL_length (m : Kv) (ks : List Key) : (dropL m ks).length ≤ m.length := by
  induction ks generalizing m with
  | nil => exact Nat.le_refl _
  | cons x r ih => exact Nat.le_trans (ih (m := dropK x m)) (dropK_length x m)
theorem insL_mem {m pl : Kv} {p : Key × Nat} (h : p ∈ insL m pl) : p ∈ m ∨ p ∈ pl := by
  induction pl generalizing m with
  | nil => exact .inl h
  | cons x r ih =>
    have h : p ∈ insL (insK m x.1 x.2) r := h
    rcases ih h with e | e
    · rcases insK_mem e with e | e
      · exact .inr (by rw [e]; exact List.mem_cons_self)
      · exact .inl e
    · exact .inr (List.mem_cons_of_mem _ e)
theorem insL_rises {m pl : Kv} (h : Rises m) : Rises (insL m pl) := by
  induction pl generalizing m with
  | nil => exact h
  | cons x r ih => exact ih (insK_rises h x.1 x.2)
def badN (ks : List Key) : Int := if ks.all (fun k => decide (k.length ≤ 65535)) then 0 else 8
theorem badN_pos {ks : List Key} (h : ∀ k ∈ ks, k.length ≤ 65535) : badN ks = 0 := by
  unfold badN
  rw [if_pos (List.all_eq_true.2 fun k hk => decide_eq_true (h k hk))]
theorem badN_neg {ks : List Key} (h : ¬ ∀ k ∈ ks, k.length ≤ 65535) : badN ks = 8 := by
  unfold badN
  rw [if_neg fun hh => h fun k hk => of_decide_eq_true (List.all_eq_true.1 hh k hk)]
theorem badN_eq {ks : List Key} : badN ks = if ∀ k ∈ ks, k.length ≤ 65535 then 0 else 8 := by
  split
  · rename_i h; exact badN_pos h
  · rename_i h; exact badN_neg h
variable [Floor]
namespace law21
section
variable {B : Nat} {w w' w1 : World} {wb n j tb : Nat} {l m : Kv} {v va vm dv : Value} {ks : List Key} {V : Nat → Option (T × Kv)} {M : Nat → Option TrR} {F : Nat → Prop} {r : TrR}
theorem VE.bss (h : VE B w w') (hd : Bss w dv ks) : Bss w' dv ks := by
  obtain ⟨Y, e, hn, -⟩ := h.out
  exact hd.ext e hn.nbp.b
/-- keys are taken out of a transient -/
theorem c_loadDrop (h : TI B w wb n j V M F) (hr : M tb = some r) (hd : Bss w dv ks) (hl : ks.length ≤ 1000) :
    Ret P n_load_Drop [rp tb, dv] w fun rr w' => VE B w w' ∧ ∃ n' t' M', rr = .tuple #[.int .i64 (if ∀ k ∈ ks, k.length ≤ 65535 then hadL r.l ks else 0 : Nat), .int .i64 (if ∀ k ∈ ks, k.length ≤ 65535 then 0 else 8)] ∧ TI B w' wb n' j V M' F ∧
      M' tb = some ⟨r.o, r.vb, t', if ∀ k ∈ ks, k.length ≤ 65535 then dropL r.l ks else r.l⟩ := by
  refine W_load_Drop ?_
  refine (c_ready h hr).mono ?_
  rintro _ w1 ⟨rfl, rfl⟩
  refine xifF rfl ?_
  refine hd.len ?_
  refine xloop (fun n vs w' => ∃ (i : Nat) (x1 x2 x3 : Value), vs = [.int .i64 i, x1, x2, x3, .int .i64 0] ∧ n = ks.length - i ∧ i ≤ ks.length ∧ (∀ k ∈ ks.take i, k.length ≤ 65535) ∧ w1 = w') ks.length ⟨0, _, _, _, rfl, rfl, by omega, by simp, rfl⟩ ?_
  rintro nn vs g w2 ⟨i, x1, x2, x3, rfl, rfl, hi, hall, rfl⟩
  unfold S_load_Drop_l2
  refine xifD (fun hlt => ?_) fun hge => ?_
  · have hil : i < ks.length := by omega
    refine hd.rd i rfl hil fun kv hkv => ?_
    refine (c_May hkv).mono ?_
    rintro _ w3 ⟨rfl, rfl⟩
    by_cases hk : ks[i].length ≤ 65535
    · rw [if_pos hk]
      refine xifF rfl ?_
      refine xi (r := ((i + 1 : Nat) : Int)) (by rw [wrapI (by omega)]; omega) ?_
      refine xnext (ks.length - (i + 1)) (by omega) ⟨i + 1, _, _, _, rfl, rfl, by omega, fun k hk' => ?_, rfl⟩
      rw [← List.take_append_getElem hil] at hk'
      rcases List.mem_append.1 hk' with e | e
      · exact hall k e
      · rw [List.mem_singleton.1 e]; exact hk
    · rw [if_neg hk]
      have hno : ¬ ∀ k ∈ ks, k.length ≤ 65535 := fun h => hk (h _ (List.getElem_mem hil))
      rw [if_neg hno, if_neg hno, if_neg hno]
      exact xifT rfl ⟨VE.refl _, n, r.t, M, rfl, h, hr⟩
  · rw [List.take_of_length_le (by omega)] at hall
    rw [if_pos hall, if_pos hall, if_pos hall]
    clear hge hi
    refine hd.len ?_
    refine xloop (fun n vs w' => ∃ (i n' : Nat) (t' : T) (M' : Nat → Option TrR) (x1 x2 x3 : Value), vs = [.int .i64 i, x1, x2, x3, .int .i64 (hadL r.l (ks.take i) : Nat)] ∧ n = ks.length - i ∧ i ≤ ks.length ∧ TI B w' wb n' j V M' F ∧ M' tb = some ⟨r.o, r.vb, t', dropL r.l (ks.take i)⟩ ∧ VE B w1 w') ks.length
      ⟨0, n, r.t, M, _, _, _, rfl, rfl, by omega, h, by simpa [dropL] using hr, VE.refl _⟩ ?_
    rintro nn vs g w3 ⟨i, n', t', M', x1, x2, x3, rfl, rfl, hi, hT, hr', hE⟩
    unfold S_load_Drop_l1
    refine xifD (fun hlt => ?_) fun hge => ?_
    · have hil : i < ks.length := by omega
      have hle := hadL_le r.l (ks.take i)
      rw [List.length_take] at hle
      refine xj (fun vs w' => ∃ (n' : Nat) (t' : T) (M' : Nat → Option TrR) (x1 x2 x3 : Value), vs = [x1, x2, x3, .int .i64 (hadL r.l (ks.take (i + 1)) : Nat)] ∧ TI B w' wb n' j V M' F ∧ M' tb = some ⟨r.o, r.vb, t', dropL r.l (ks.take (i + 1))⟩ ∧ VE B w1 w') ?_ ?_
      · refine (VE.bss hE hd).rd i rfl hil fun kv hkv => ?_
        refine (c_TDel hT hr' hkv (hall _ (List.getElem_mem hil))).mono ?_
        rintro _ w4 ⟨rfl, hE4, t4, n4, hT4, -, -⟩
        rw [hadL_take hil, dropL_take hil]
        cases hq : (look (dropL r.l (ks.take i)) ks[i]).isSome with
        | true =>
          refine xifT rfl ?_
          refine xi (r := ((hadL r.l (ks.take i) + 1 : Nat) : Int)) (by rw [wrapI (by omega)]; omega) ?_
          exact ⟨n4, t4, _, _, _, _, rfl, hT4, updM_same _ _ _, hE.trans hE4⟩
        | false =>
          refine xifF rfl ?_
          exact ⟨n4, t4, _, _, _, _, rfl, hT4, updM_same _ _ _, hE.trans hE4⟩
      rintro vs g w4 ⟨n4, t4, M4, x1, x2, x3, rfl, hT4, hr4, hE4⟩
      refine xi (r := ((i + 1 : Nat) : Int)) (by rw [wrapI (by omega)]; omega) ?_
      exact xnext (ks.length - (i + 1)) (by omega) ⟨i + 1, n4, t4, M4, _, _, _, rfl, rfl, by omega, hT4, hr4, hE4⟩
    · have : i = ks.length := by omega
      subst this
      rw [List.take_length] at hr' ⊢
      exact ⟨hE, n', t', M', rfl, hT, hr'⟩
theorem c_loadDropF (h : TI B w wb n j V M F) (hf : F tb) : Ret P n_load_Drop [rp tb, dv] w fun rr w' => rr = .tuple #[.int .i64 0, .int .i64 11] ∧ w' = w := by
  refine W_load_Drop ?_
  refine (c_readyF h hf).mono ?_
  rintro _ w1 ⟨rfl, rfl⟩
  exact xifT rfl ⟨rfl, rfl⟩
theorem c_LoadF (h : TI B w wb n j V M F) (hf : F tb) : Ret P n_load_Load [rp tb, v] w fun rr w' => rr = .int .i64 11 ∧ w' = w := by
  refine W_load_Load ?_
  refine (c_readyF h hf).mono ?_
  rintro _ w1 ⟨rfl, rfl⟩
  exact xifT rfl ⟨rfl, rfl⟩
theorem c_LoadBad (h : TI B w wb n j V M F) (hr : M tb = some r) (hv : Ps w v l) (hk : ¬ ∀ p ∈ l, p.1.length ≤ 65535) (hl : l.length ≤ 90000) :
    Ret P n_load_Load [rp tb, v] w fun rr w' => rr = .int .i64 8 ∧ Ext No w w' := by
  refine W_load_Load ?_
  refine (c_ready h hr).mono ?_
  rintro _ w1 ⟨rfl, rfl⟩
  refine xifF rfl ?_
  refine (c_may hv (by omega)).mono ?_
  rintro _ w2 ⟨rfl, he2⟩
  rw [if_neg hk]
  exact xifT rfl ⟨rfl, he2⟩
theorem c_r21Load (hm : Ps w vm m) (hv : Ps w v l) (hr : Rises m) (h1 : m.length + l.length ≤ 10000) (h2 : ∀ p ∈ m, p.1.length ≤ 65535) (h3 : ∀ p ∈ l, p.1.length ≤ 65535) :
    Ret P n_ref21_Load [vm, v] w fun r w' => Ps w' r (insL m l) ∧ Ext No w w' := by
  refine W_ref21_Load ?_
  refine xloop (fun n vs w' => ∃ (i : Nat) (x : Value), vs = [.int .i64 i, x] ∧ n = l.length - i ∧ i ≤ l.length ∧ Ps w' x (insL m (l.take i)) ∧ Ext No w w') l.length ⟨0, vm, rfl, rfl, by omega, by simpa [insL] using hm, Ext.refl _ _⟩ ?_
  rintro nn vs g w1 ⟨i, x, rfl, rfl, hi, hx, he⟩
  unfold S_ref21_Load_l1
  refine (hv.extN he).len ?_
  refine xifD (fun hlt => ?_) fun hge => ?_
  · have hil : i < l.length := by omega
    have hd := Ext.drew (Ext.refl No w1)
    have hv1 := hv.extN (he.transN hd)
    refine hv1.key i rfl hil fun kv hkv => ?_
    refine hv1.val i rfl hil ?_
    have hln := insL_length m (l.take i)
    rw [List.length_take] at hln
    have hks : ∀ p ∈ insL m (l.take i), p.1.length ≤ 65535 := fun p hp => (insL_mem hp).elim (h2 p) fun h => h3 p (List.mem_of_mem_take h)
    refine (c_r15Put (hx.extN hd) hkv (hv.get hil) (by omega) hks (h3 _ (List.getElem_mem hil))).mono ?_
    rintro x' w2 ⟨hx2, he2⟩
    rw [← insK_sort _ (insL_rises hr)] at hx2
    refine xi (r := ((i + 1 : Nat) : Int)) (by rw [wrapI (by omega)]; omega) ?_
    exact xnext (l.length - (i + 1)) (by omega) ⟨i + 1, x', rfl, rfl, by omega, by rw [insL_take hil]; exact hx2, (he.transN hd).transN he2⟩
  · have : i = l.length := by omega
    subst this
    rw [List.take_length] at hx
    exact ⟨hx, he⟩
theorem c_r21Drop (hm : Ps w vm m) (hd : Bss w dv ks) (h1 : m.length ≤ 10000) (h2 : ∀ p ∈ m, p.1.length ≤ 65535) (hl : ks.length ≤ 1000) :
    Ret P n_ref21_Drop [vm, dv] w fun r w' => ∃ x, r = .tuple #[x, .int .i64 (hadL m ks : Nat)] ∧ Ps w' x (dropL m ks) ∧ Ext No w w' := by
  refine W_ref21_Drop ?_
  refine xloop (fun n vs w' => ∃ (i : Nat) (x y z : Value), vs = [.int .i64 i, x, y, z, .int .i64 (hadL m (ks.take i) : Nat)] ∧ n = ks.length - i ∧ i ≤ ks.length ∧ Ps w' x (dropL m (ks.take i)) ∧ Ext No w w') ks.length ⟨0, vm, _, _, rfl, rfl, by omega, by simpa [dropL] using hm, Ext.refl _ _⟩ ?_
  rintro nn vs g w1 ⟨i, x, y, z, rfl, rfl, hi, hx, he⟩
  unfold S_ref21_Drop_l1
  refine (hd.extN he).len ?_
  refine xifD (fun hlt => ?_) fun hge => ?_
  · have hil : i < ks.length := by omega
    have hle := hadL_le m (ks.take i)
    have hln := dropL_length m (ks.take i)
    rw [List.length_take] at hle
    refine (hd.extN he).rd i rfl hil fun kv hkv => ?_
    refine (c_r16Del hx hkv (by omega) fun p hp => h2 p (dropL_mem hp)).mono ?_
    rintro _ w2 ⟨out, rfl, hso, he2⟩
    have ho := hso.ps he2 (.inr rfl)
    rw [hasK_look]
    refine xj (fun vs w' => vs = [.int .i64 (hadL m (ks.take (i + 1)) : Nat)] ∧ w2 = w') ?_ ?_
    · rw [hadL_take hil]
      cases hq : (look (dropL m (ks.take i)) ks[i]).isSome with
      | true =>
        refine xifT rfl ?_
        refine xi (r := ((hadL m (ks.take i) + 1 : Nat) : Int)) (by rw [wrapI (by omega)]; omega) ?_
        exact ⟨rfl, rfl⟩
      | false => exact xifF rfl ⟨rfl, rfl⟩
    rintro vs g w3 ⟨rfl, rfl⟩
    refine xi (r := ((i + 1 : Nat) : Int)) (by rw [wrapI (by omega)]; omega) ?_
    exact xnext (ks.length - (i + 1)) (by omega) ⟨i + 1, out, _, _, rfl, rfl, by omega, by rw [dropL_take hil]; exact ho, he.transN he2⟩
  · have : i = ks.length := by omega
    subst this
    rw [List.take_length] at hx ⊢
    exact ⟨x, rfl, hx, he⟩
end
section
variable {w : World} {v vm dv : Value} {l m : Kv} {ks : List Key}
set_option maxRecDepth 100000 in
set_option maxHeartbeats 2000000 in
theorem l_LoadPlays (hw : Lw w) (hl : Ps w v l) (hm : Ps w vm m) (hd : Bss w dv ks) : Ret P n_law21_LoadPlays [v, vm, dv] w fun r w' => r = .bool true ∧ Ext No w w' := by
  refine W_law21_LoadPlays ?_
  refine xj (fun vs w' => ∃ b, vs = [.bool b] ∧ Ext No w w' ∧ (b = false → (l.length ≤ 100 ∧ ∀ p ∈ l, p.1.length ≤ 300) ∧ (m.length ≤ 60 ∧ ∀ p ∈ m, p.1.length ≤ 300) ∧ ks.length ≤ 60)) ?_ ?_
  · refine (c_far (m := 100) hl (by omega)).mono ?_
    rintro r w1 ⟨b, rfl, he1, hb⟩
    cases b with
    | true => exact xifT rfl ⟨true, rfl, he1, fun h => by cases h⟩
    | false =>
      refine xifF rfl ?_
      refine (c_far (m := 60) (hm.extN he1) (by omega)).mono ?_
      rintro r w2 ⟨b, rfl, he2, hb2⟩
      cases b with
      | true => exact xifT rfl ⟨true, rfl, he1.transN he2, fun h => by cases h⟩
      | false =>
        refine xifF rfl ?_
        refine hd.len ?_
        exact ⟨_, rfl, he1.transN he2, fun h => ⟨hb rfl, hb2 rfl, by have := of_decide_eq_false h; omega⟩⟩
  rintro vs g w1 ⟨b, rfl, he1, hb⟩
  have hw1 := hw.extN he1
  cases b with
  | true =>
    refine xifT rfl ?_
    refine (c_alive hw1).mono ?_
    rintro r w2 ⟨rfl, he2⟩
    exact ⟨rfl, he1.transN he2⟩
  | false =>
  refine xifF rfl ?_
  obtain ⟨⟨l1, l3⟩, ⟨m6, m3⟩, k6⟩ := hb rfl
  have lk : ∀ p ∈ l, p.1.length ≤ 65535 := fun p hp => by have := l3 p hp; omega
  have mk : ∀ p ∈ m, p.1.length ≤ 65535 := fun p hp => by have := m3 p hp; omega
  refine hd.len ?_
  refine xloop (fun n vs w' => ∃ (i : Nat) (x y : Value), vs = [.int .i64 i, x, y, .int .i64 (badN (ks.take i))] ∧ n = ks.length - i ∧ i ≤ ks.length ∧ w1 = w') ks.length ⟨0, undef, .bool false, rfl, rfl, by omega, rfl⟩ ?_
  rintro nn vs g w2 ⟨i, x, y, rfl, rfl, hi, rfl⟩
  unfold S_law21_LoadPlays_l1
  refine xifD (fun hlt => ?_) fun hge => ?_
  · have hil : i < ks.length := by omega
    refine xj (fun vs w' => ∃ (x y : Value), vs = [x, y, .int .i64 (badN (ks.take (i + 1)))] ∧ w1 = w') ?_ ?_
    · refine (hd.extN he1).rd i rfl hil fun kv hkv => ?_
      refine xj (fun vs w' => ∃ q : Bool, vs = [.bool q] ∧ w1 = w') ?_ ?_
      · refine hkv.len ?_
        refine xifD (fun h => ?_) fun h => ?_
        · refine hkv.len ?_
          refine xifD (fun h2 => ⟨true, rfl, rfl⟩) fun h2 => ?_
          refine hkv.len ?_
          exact ⟨_, rfl, rfl⟩
        · refine hkv.len ?_
          exact ⟨_, rfl, rfl⟩
      rintro vs g w3 ⟨q, rfl, rfl⟩
      cases q with
      | true =>
        refine xifT rfl ?_
        refine (c_alive hw1).mono ?_
        rintro r w2 ⟨rfl, he2⟩
        exact ⟨rfl, he1.transN he2⟩
      | false =>
        refine xifF rfl ?_
        refine hkv.len ?_
        have hiff : (∀ k ∈ ks.take (i + 1), k.length ≤ 65535) ↔ (∀ k ∈ ks.take i, k.length ≤ 65535) ∧ ks[i].length ≤ 65535 := by
          rw [← List.take_append_getElem hil]
          constructor
          · intro h
            exact ⟨fun k hk => h k (List.mem_append_left _ hk), h _ (List.mem_append_right _ (List.mem_singleton.2 rfl))⟩
          · rintro ⟨h1, h2⟩ k hk
            rcases List.mem_append.1 hk with h | h
            · exact h1 k h
            · rw [List.mem_singleton.1 h]; exact h2
        refine xifD (fun h => ?_) fun h => ?_
        · rw [badN_neg fun hh => by have := (hiff.1 hh).2; omega]
          exact ⟨_, _, rfl, rfl⟩
        · by_cases hall : ∀ k ∈ ks.take i, k.length ≤ 65535
          · rw [badN_pos (hiff.2 ⟨hall, by omega⟩)]
            exact ⟨kv, y, by rw [← badN_pos hall]; rfl, rfl⟩
          · rw [badN_neg fun hh => hall (hiff.1 hh).1]
            exact ⟨kv, y, by rw [← badN_neg hall]; rfl, rfl⟩
    rintro vs g w3 ⟨x', y', rfl, rfl⟩
    refine xi (r := ((i + 1 : Nat) : Int)) (by rw [wrapI (by omega)]; omega) ?_
    exact xnext (ks.length - (i + 1)) (by omega) ⟨i + 1, _, _, rfl, rfl, by omega, rfl⟩
  rw [List.take_of_length_le (by omega), badN_eq]
  clear hge hi
  have hpr : Pr (sortK l) := Pr.sort (by omega) lk
  have hs1 := sortK_length l
  have hl1 := hl.extN he1
  have hm1 := hm.extN he1
  have hd1 := hd.extN he1
  refine (c_rSort hl1 (by omega) (fun p hp => by have := l3 p hp; omega)).mono ?_
  rintro vs w2 ⟨hso, he2⟩
  have hps2 := hso.ps he2 (.inr rfl)
  have hw2 := hw1.extN he2
  refine (c_WNew (B := w2.heap.size) hw2 (Nat.le_refl _) hw2.fl).mono ?_
  rintro _ w3 ⟨rfl, hI3, he3⟩
  refine (c_pairs (hps2.extN he3) (by omega)).mono ?_
  rintro va w4 ⟨hva, he4⟩
  refine (c_From (hI3.extN he4) hva hpr (by omega)).mono ?_
  rintro _ w5 ⟨v0, t0, rfl, -, -, hI5, -, hE5⟩
  have hv5 : updV (fun _ => none) v0 (t0, sortK l) v0 = some (t0, sortK l) := updV_same _ _ _
  generalize updV (fun _ => none) v0 (t0, sortK l) = V at hI5 hv5
  have hE35 : VE w2.heap.size w3 w5 := (VE.no he4).trans hE5
  refine (c_Edit (TI.of hI5) hv5 (by omega)).mono ?_
  rintro _ w6 ⟨tb, rfl, htb, hT6, hE6⟩
  have hr6 := updM_same (fun _ => none) tb ⟨0 + 1 + 1, v0, t0, sortK l⟩
  generalize updM (fun _ => none) tb ⟨0 + 1 + 1, v0, t0, sortK l⟩ = M6 at hT6 hr6
  have hE36 := hE35.trans hE6
  have hstart : ∀ {w' : World}, VE w2.heap.size w3 w' → Ext No w w' := fun hE => hE.start ((he1.transN he2).transN he3) (by have := (he1.transN he2).size; omega)
  refine xj (fun vs w' => vs = [.bool false] ∧ w6 = w') ?_ ?_
  · refine xpeq_vb ?_
    exact xifF rfl ⟨rfl, rfl⟩
  rintro vs2 g w7 ⟨rfl, rfl⟩
  refine xifF rfl ?_
  have hm3 := hm1.extN (he2.transN he3)
  have hd3 := hd1.extN (he2.transN he3)
  refine (c_pairs (hE36.ps hm3) (by omega)).mono ?_
  rintro vmm w7 ⟨hvm, he7⟩
  refine (c_Load (hT6.extN he7) hr6 hvm mk (by show (sortK l).length + _ ≤ _; omega)).mono ?_
  rintro _ w8 ⟨rfl, hE8, n8, t8, M8, hT8, hr8, -⟩
  have hE38 := (hE36.transN he7).trans hE8
  have hps8 := hE38.ps (hps2.extN he3)
  have hln := insL_length (sortK l) m
  have hik : ∀ p ∈ insL (sortK l) m, p.1.length ≤ 65535 := fun p hp => (insL_mem hp).elim (fun h => lk p (sortK_mem h)) (mk p)
  refine (c_r21Load hps8 (hE38.ps hm3) hpr.rises (by omega) hpr.keys mk).mono ?_
  rintro vall w9 ⟨hall9, he9⟩
  have hE39 := hE38.transN he9
  refine (c_loadDrop (hT8.extN he9) hr8 (VE.bss hE39 hd3) (by omega)).mono ?_
  rintro _ w10 ⟨hE10, n10, t10, M10, rfl, hT10, hr10⟩
  have hE310 := hE39.trans hE10
  refine (c_r21Drop (hE10.ps hall9) (VE.bss hE310 hd3) (by omega) hik (by omega)).mono ?_
  rintro _ w11 ⟨vleft, rfl, hleft, he11⟩
  have hall11 := (hE10.ps hall9).extN he11
  have hdl := dropL_length (insL (sortK l) m) ks
  have hT11 := hT10.extN he11
  have hE311 := hE310.transN he11
  refine xj (fun vs w' => ∃ x, vs = [x, .int .i64 (if ∀ k ∈ ks, k.length ≤ 65535 then hadL (insL (sortK l) m) ks else 0 : Nat)] ∧ Ps w11 x (if ∀ k ∈ ks, k.length ≤ 65535 then dropL (insL (sortK l) m) ks else insL (sortK l) m) ∧ w11 = w') ?_ ?_
  · by_cases hk : ∀ k ∈ ks, k.length ≤ 65535
    · simp only [if_pos hk]
      exact xifF rfl ⟨vleft, rfl, hleft, trivial⟩
    · simp only [if_neg hk]
      exact xifT rfl ⟨vall, rfl, hall11, trivial⟩
  rintro vs3 g w12 ⟨vx, rfl, hvx, rfl⟩
  have hlast : (if ∀ k ∈ ks, k.length ≤ 65535 then dropL (insL (sortK l) m) ks else insL (sortK l) m).length ≤ 1000 ∧ ∀ p ∈ (if ∀ k ∈ ks, k.length ≤ 65535 then dropL (insL (sortK l) m) ks else insL (sortK l) m), p.1.length ≤ 65535 := by
    split
    · exact ⟨by omega, fun p hp => hik p (dropL_mem hp)⟩
    · exact ⟨by omega, hik⟩
  have hr10 : M10 tb = some ⟨0 + 1 + 1, v0, t10, if ∀ k ∈ ks, k.length ≤ 65535 then dropL (insL (sortK l) m) ks else insL (sortK l) m⟩ := hr10
  generalize (if ∀ k ∈ ks, k.length ≤ 65535 then dropL (insL (sortK l) m) ks else insL (sortK l) m) = L at hvx hr10 hlast
  obtain ⟨hL1, hLk⟩ := hlast
  show XNew w11 (([0, 0, 0, 0, 0, 0, 0, 9] : Key).map bv) T_uint8 _
  refine xnew fun a13 w13 ha13 hb13 hz13 he13 => ?_
  refine mkLong fun b14 zk w14 hzk hkey he14 => ?_
  show XNew w14 [.slice (some ⟨a13, 0, none⟩) 8 8, u64 0, .slice (some ⟨b14, 0, none⟩) 65536 65536, u64 0] T_api_Pair _
  refine xnew fun a15 w15 ha15 hb15 hz15 he15 => ?_
  have hk13 : Bs w15 (.slice (some ⟨a13, 0, none⟩) 8 8) [0, 0, 0, 0, 0, 0, 0, 9] := (Bs.new (k := [0, 0, 0, 0, 0, 0, 0, 9]) hb13).extN (he14.transN he15)
  have hPC : PC w15 [([0, 0, 0, 0, 0, 0, 0, 9], 0), (zk, 0)] [.slice (some ⟨a13, 0, none⟩) 8 8, u64 0, .slice (some ⟨b14, 0, none⟩) 65536 65536, u64 0] := (PC.sing hk13 (by omega)).app (PC.sing (hkey.extN he15) (by omega))
  have hPs15 := Ps.lit hb15 hPC
  have he1115 := (he13.transN he14).transN he15
  have hT15 := hT11.extN he1115
  refine (c_LoadBad hT15 hr10 hPs15 (fun h => by have := h (zk, 0) (by simp); have this : zk.length ≤ 65535 := this; omega) (by simp)).mono ?_
  rintro _ w16 ⟨rfl, he16⟩
  refine (c_TList (hT15.extN he16) hr10).mono ?_
  rintro _ w17 ⟨lv, rfl, hlv, he17⟩
  have he1117 := (he1115.transN he16).transN he17
  have hT17 := hT11.extN he1117
  refine (c_TFreezeE hT17 hr10).mono ?_
  rintro _ w18 ⟨hE18, vx18, V18, t18, rfl, hT18, hv18, hk18, -, -⟩
  have hf : (fun b => b = tb ∨ (fun _ : Nat => False) b) tb := .inl rfl
  refine (c_loadDropF hT18 hf).mono ?_
  rintro _ w19 ⟨rfl, rfl⟩
  have hE1118 : VE w2.heap.size w11 w19 := (VE.no he1117).trans hE18
  refine xj (fun vs w' => vs = [.bool true] ∧ Ext No w19 w') ?_ ?_
  · refine xifT rfl ?_
    refine xifT (by simp) ?_
    refine xifT (by simp) ?_
    refine xifT rfl ?_
    have hvx19 := hE1118.ps hvx
    refine (c_same (hE18.ps hlv) hvx19 (by show L.length ≤ _; omega) (by omega) hLk).mono ?_
    rintro _ w20 ⟨rfl, he20⟩
    refine xifT (decide_eq_true rfl) ?_
    refine (c_VList (hT18.vi.extN he20) hv18).mono ?_
    rintro _ w21 ⟨hvl21, he21⟩
    have he1921 := he20.transN he21
    refine (c_same hvl21 (hvx19.extN he1921) (by show L.length ≤ _; omega) (by omega) hLk).mono ?_
    rintro _ w22 ⟨rfl, he22⟩
    refine xifT (decide_eq_true rfl) ?_
    have he1922 := he1921.transN he22
    refine (c_VList (hT18.vi.extN he1922) (hk18 _ _ hv5)).mono ?_
    rintro _ w23 ⟨hvl23, he23⟩
    have he1923 := he1922.transN he23
    refine (c_same hvl23 (((hE311.trans hE1118).ps (hps2.extN he3)).extN he1923) (by omega) (by omega) hpr.keys).mono ?_
    rintro _ w24 ⟨rfl, he24⟩
    refine xifT (decide_eq_true rfl) ?_
    refine xifT rfl ?_
    refine xifT rfl ?_
    have he1924 := he1923.transN he24
    refine (c_LoadF (hT18.extN he1924) hf).mono ?_
    rintro _ w25 ⟨rfl, rfl⟩
    refine xifT rfl ?_
    refine (c_alive (hT18.extN he1924).vi.lw).mono ?_
    rintro _ w26 ⟨rfl, he26⟩
    exact ⟨rfl, he1924.transN he26⟩
  · rintro vs g w20 ⟨rfl, he20⟩
    exact ⟨rfl, (hstart (hE311.trans hE1118)).transN he20⟩
end
end law21
end Go.Proofs.YtlhjfenpmnejoaaGreat
