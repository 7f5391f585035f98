/-  scripts: an operation's words and its line, the program's and the document's.  -/
import Derived.Test.YtbfnagdpanfphaaGreatDoorSc
section
namespace Go.Proofs.YtbfnagdpanfphaaGreatDoor
open Go Go.RowKit X
set_option linter.unusedSimpArgs false
set_option linter.unusedVariables false
set_option linter.unusedSectionVars false
theorem wrapU64s (x : Int) : IntKind.u64.wrap x = x % 18446744073709551616 := by
  simp only [IntKind.wrap, IntKind.bits, IntKind.signed]
  simp
theorem joinC_step {c : UInt8} {p : List UInt8} {ps : List (List UInt8)} : joinC c (ps ++ [p]) = (if ps = [] then [] else joinC c ps ++ [c]) ++ p := by
  split
  · rename_i h; subst h; rfl
  · rename_i h; rw [joinC_snoc h]; simp
theorem join_take {α : Type} {c : UInt8} {f : α → List UInt8} {l : List α} {i : Nat} (hil : i < l.length) : joinC c ((l.take (i + 1)).map f) = (if i = 0 then [] else joinC c ((l.take i).map f) ++ [c]) ++ f l[i] := by
  rw [← List.take_append_getElem hil, List.map_append]
  show joinC c ((l.take i).map f ++ [f l[i]]) = _
  rw [joinC_step]
  have e3 : ((l.take i).map f = []) ↔ i = 0 := by
    rw [List.map_eq_nil_iff, List.take_eq_nil_iff]
    constructor
    · rintro (h | h)
      · exact h
      · subst h; simp at hil
    · exact .inl
  by_cases h0 : i = 0
  · rw [if_pos (e3.2 h0), if_pos h0]
  · rw [if_neg fun h => h0 (e3.1 h), if_neg h0]
theorem store2' {w : World} {t T : TypeId} {g : Nat} {x y a b : Value} {K : World → Prop} (hg : Blk w g [x, y] T) (hi : (P.info? t).map (·.size) = some 2) (ha : a.oneCell' = true) (hb : b.oneCell' = true)
    (k : ∀ w', Blk w' g [a, b] T → w'.heap.size = w.heap.size → Ext (· = g) w w' → K w') : XDo P (storeVar t ⟨g, 0, none⟩ (.agg #[a, b])) w K := by
  refine xstoreVar (vs := [a, b]) hg hi (by simp) (by simp [ha, hb]) fun w' h1 h2 h3 => k w' ?_ h2 h3
  simpa using h1
variable [Floor]
section
variable {w : World} {o : OpV} {cs : List Value} {v kv : Value} {k : Key} {l : Kv} {c : Chg} {lc : List Chg}
theorem own_neT {B : Nat} {e : TypeId} {sz n : Nat} {xs : List Value} (h : Own w B e sz v n xs) {b : Nat} {cs : List Value} {T : TypeId} (hb : Blk w b cs T) (hT : T ≠ e) : v.ownBlock ≠ some b := by
  intro e1
  rcases h.2 with ⟨rfl, -⟩ | ⟨g, cap, cur, rfl, -, hg, -⟩
  · cases e1
  · simp only [Value.ownBlock, Option.some.injEq] at e1
    subst e1
    have := hb.h.symm.trans hg
    simp at this
    exact hT this.2
theorem own_neI {B : Nat} {e : TypeId} {sz n : Nat} {xs : List Value} (h : Own w B e sz v n xs) {b i : Nat} {s : List UInt8} (hb : It w b s i) : v.ownBlock ≠ some b := by
  intro e1
  rcases h.2 with ⟨rfl, -⟩ | ⟨g, cap, cur, rfl, -, hg, -⟩
  · cases e1
  · simp only [Value.ownBlock, Option.some.injEq] at e1
    subst e1
    have := (show w.heap[g]? = some _ from hb).symm.trans hg
    cases this
/-- a pair is put into a variable -/
theorem Ps.var {kd : IntKind} {i : Int} {t T : TypeId} (h : Ps w v l) (m : Nat) (hi : i = (m : Int)) (hm : m < l.length) (ht : (P.info? t).map (·.size) = some 2) {K : Addr → World → Prop}
    (k : ∀ b w2 kv, Blk w2 b [kv, u64 l[m].2] T → Ext No w w2 → w.heap.size ≤ b → Bs w kv l[m].1 → K ⟨b, 0, none⟩ w2) :
    xIxS v (.int kd i) 2 fun u => xAt u fun a => XLdN w a 2 fun y => XNew w [.slice none 0 0, .int .u64 0] T fun b w1 => XDo P (storeVar t b y) w1 fun w2 => K b w2 := by
  refine h.rd m hi hm fun kv hkv => ?_
  refine xnew fun b w1 hb hblk hz he => ?_
  refine store2' hblk ht hkv.one1 rfl fun w2 h2 hz2 he2 => ?_
  exact k b w2 kv h2 (he.trans1 he2 (by omega)) (by omega) hkv
/-- one more word -/
theorem app_str {n : Nat} {p : List UInt8} {xs : List (List UInt8)} {v : Value} {w0 : World} {K : Value → World → Prop} (h0 : Ext No w0 w) (h : Own w w0.heap.size T_string 1 v n (xs.map str)) (hn : n ≤ 100000)
    (k : ∀ v' w', Own w' w0.heap.size T_string 1 v' (n + 1) ((xs ++ [p]).map str) → Ext No w0 w' → Ext (fun b => v.ownBlock = some b) w w' → K v' w') :
    XNew w [str p] T_string fun a w1 => XRun P (Builtin.append_ #[T_s_string, T_s_string] T_s_string #[v, .slice (some a) 1 1]) w1 K := by
  refine xnew fun b w1 hb hblk hz he => ?_
  have hsl : Sl w1 (tyQ T_string) (.slice (some ⟨b, 0, none⟩) 1 1) 1 1 [str p] := by
    have := hblk.sl (o := 0) (n := 1) (cap := 1) (by simp) (Nat.le_refl _)
    simpa using this
  have hs := h0.size
  have hE1 := h0.transN he
  refine app_own ei_str (h.extN he) (by omega) hsl (by intro u hu; simp at hu; subst hu; rfl) (by omega) (by omega) fun v' w' ho hE _ hb' => ?_
  refine k v' w' ?_ (hE1.own (h.extN he) (Nat.le_refl _) hE) ((he.mono fun _ _ h => h.elim).transS hE)
  rw [List.map_append]; exact ho
/-! ### numbers, keys, values -/
set_option maxRecDepth 100000 in
theorem c_ItoaN (ht : Tab w) {u : Nat} (h1 : 1 ≤ u) (hu : u ≤ 999999999) : Ret P n_strconv_Itoa [.int .i64 (-(u : Int))] w fun r w' => r = str (45 :: decK u) ∧ Ext No w w' := by
  refine W_strconv_Itoa ?_
  refine Ret.mono (R := fun r w' => r = str (45 :: decK u) ∧ Ext No w w') (W_istrconv_Itoa ?_) fun r w' h => h
  refine Ret.mono (R := fun r w' => r = str (45 :: decK u) ∧ Ext No w w') (W_istrconv_FormatInt ?_) fun r w' h => h
  refine xifT rfl ?_
  refine xj (fun vs w' => vs = [.bool false] ∧ w' = w) ?_ ?_
  · exact xifF (decide_eq_false (by omega)) ⟨rfl, rfl⟩
  rintro vs g w1 ⟨rfl, rfl⟩
  refine xifF rfl ?_
  have hu64 : u < 18446744073709551616 := by omega
  have hl := decK_len u hu64
  have hd := digits20 hu64
  have hp := decK_pos u
  show XNew w1 (List.replicate 24 (bv 0)) T_a24_uint8 _
  refine xnew fun b w2 hb hblk hz he => ?_
  have ht1 : Tab w2 := ht.extN he
  refine xi (r := 18446744073709551616 - (u : Int)) (by rw [wrapU64s]; omega) ?_
  refine xj (fun vs w' => vs = [.int .u64 u] ∧ w' = w2) (xifT (by simp; omega) (xi (r := (u : Int)) (by rw [wrapU64s]; omega) ⟨rfl, rfl⟩)) ?_
  rintro vs g w3 ⟨rfl, rfl⟩
  refine (c_numDigits ht1 (by omega) hu64).mono ?_
  rintro r w4 ⟨rfl, rfl⟩
  refine xi (r := ((1 + (decK u).length : Nat) : Int)) (by rw [wrapI (by omega)]; omega) ?_
  refine xcutB 1 (1 + (decK u).length) rfl rfl (by omega) (by omega) ?_
  have e1 : 1 + (decK u).length - 1 = (decK u).length := by omega
  rw [if_neg (by omega), e1]
  have hfm : Ret P n_istrconv_formatBase10 [.slice (some ⟨b, 1, none⟩) (decK u).length 23, .int .u64 u] w4 fun r w' => Blk w' b (([bv 0] : List Value) ++ ((decK u).map bv ++ (List.replicate 24 (bv 0)).drop (1 + (decK u).length))) T_a24_uint8 ∧ w'.heap.size = w4.heap.size ∧ Ext (· = b) w4 w' := by
    have := c_fmt (o := 1) (cap := 23) hblk (by simp; omega) hl hp hd hu64
    rw [padK_dec rfl] at this
    exact this
  refine hfm.mono ?_
  rintro r w5 ⟨hb3, hz3, he3⟩
  refine xifT (by simp; omega) ?_
  refine xix 0 rfl (by omega) ?_
  refine hb3.st1 (o := 0) (by simp) rfl rfl fun w6 hb6 hz6 he6 => ?_
  refine xi (r := ((1 + (decK u).length : Nat) : Int)) (by rw [wrapI (by omega)]; omega) ?_
  refine cutA_h (1 + (decK u).length) rfl (by omega) (by omega) ?_
  have hsl := hb6.sl (o := 0) (n := 1 + (decK u).length) (cap := 24) (by simp; omega) (by omega)
  have e2 : ((((([bv 0] : List Value) ++ ((decK u).map bv ++ (List.replicate 24 (bv 0)).drop (1 + (decK u).length))).set 0 (.int .u8 45)).drop 0).take (1 + (decK u).length)) = (45 :: decK u).map bv := by
    rw [List.drop_zero]
    show (bv 45 :: ((decK u).map bv ++ (List.replicate 24 (bv 0)).drop (1 + (decK u).length))).take (1 + (decK u).length) = _
    rw [Nat.add_comm, List.take_succ_cons, List.take_append_of_le_length (by simp), List.take_of_length_le (by simp)]
    rfl
  rw [e2] at hsl
  rw [show 1 + (decK u).length = (45 :: decK u).length by simp; omega] at hsl ⊢
  exact conv_str ei_u8.u t_u8 t_str hsl ⟨rfl, (he.trans1 he3 (by omega)).trans1 he6 (by omega)⟩
theorem c_ItoaK (ht : Tab w) {n : Int} (h : -999999999 ≤ n ∧ n ≤ 999999999) : Ret P n_strconv_Itoa [.int .i64 n] w fun r w' => r = str (numK n) ∧ Ext No w w' := by
  unfold numK
  split
  · have := c_ItoaN ht (u := (-n).toNat) (by omega) (by omega)
    rw [show -(((-n).toNat : Nat) : Int) = n by omega] at this
    exact this
  · have := c_Itoa ht (u := n.toNat) (by omega)
    rw [show ((n.toNat : Nat) : Int) = n by omega] at this
    exact this
theorem c_tellNumber (ht : Tab w) {n : Int} (h : I64 n) : Ret P n_script_tellNumber [.int .i64 n] w fun r w' => r = .tuple #[str (tellN n).1, .int .i64 ((tellN n).2 : Nat)] ∧ Ext No w w' := by
  refine W_script_tellNumber ?_
  refine xj (fun vs w' => vs = [.bool (decide (999999999 < n ∨ n < -999999999))] ∧ w' = w) ?_ ?_
  · refine xifD (fun h => ⟨?c1, rfl⟩) fun h => ⟨?c2, rfl⟩
    case c1 => rw [decide_eq_true (p := 999999999 < n ∨ n < -999999999) (.inl h)]
    · by_cases e : n < -999999999
      · rw [decide_eq_true (p := 999999999 < n ∨ n < -999999999) (.inr e), decide_eq_true e]
      · rw [decide_eq_false (p := 999999999 < n ∨ n < -999999999) (by omega), decide_eq_false e]
  rintro vs g w1 ⟨rfl, rfl⟩
  refine xifD (fun h1 => ⟨?_, Ext.refl _ _⟩) fun h1 => ?_
  · unfold tellN; rw [if_pos h1]; rfl
  · refine (c_ItoaK ht (by omega)).mono ?_
    rintro r w2 ⟨rfl, he⟩
    refine ⟨?_, he⟩
    unfold tellN; rw [if_neg h1]; rfl
theorem c_rTellNumber {n : Int} (h : I64 n) : Ret P n_ref36_TellNumber [.int .i64 n] w fun r w' => r = .tuple #[str (tellN n).1, .int .i64 ((tellN n).2 : Nat)] ∧ Ext No w w' := by
  refine W_ref36_TellNumber ?_
  refine xj (fun vs w' => vs = [.bool (decide (999999999 < n ∨ n < -999999999))] ∧ w' = w) ?_ ?_
  · refine xifD (fun h => ⟨?c1, rfl⟩) fun h => ⟨?c2, rfl⟩
    case c1 => rw [decide_eq_true (p := 999999999 < n ∨ n < -999999999) (.inl h)]
    · by_cases e : n < -999999999
      · rw [decide_eq_true (p := 999999999 < n ∨ n < -999999999) (.inr e), decide_eq_true e]
      · rw [decide_eq_false (p := 999999999 < n ∨ n < -999999999) (by omega), decide_eq_false e]
  rintro vs g w1 ⟨rfl, rfl⟩
  refine xifD (fun h1 => ⟨?_, Ext.refl _ _⟩) fun h1 => ?_
  · unfold tellN; rw [if_pos h1]; rfl
  · unfold tellN numK
    rw [if_neg h1]
    refine xifD (fun h2 => ?_) fun h2 => ?_
    · refine xi (r := ((-n).toNat : Int)) (by rw [wrapI (by omega)]; omega) ?_
      refine xi (r := (((-n).toNat : Nat) : Int)) (wrapU64 (by omega)) ?_
      refine (c_Digits (by omega)).mono ?_
      rintro r w2 ⟨rfl, rfl⟩
      have := decK_len (-n).toNat (by omega)
      refine xcat (by simp; omega) ⟨?_, Ext.refl _ _⟩
      rw [if_pos h2]; rfl
    · refine xi (r := ((n.toNat : Nat) : Int)) (by rw [wrapU64 (by omega)]; omega) ?_
      refine (c_Digits (by omega)).mono ?_
      rintro r w2 ⟨rfl, rfl⟩
      refine ⟨?_, Ext.refl _ _⟩
      rw [if_neg h2]; rfl
theorem c_tellKey (h : Bs w kv k) (hk : k.length ≤ 66000) : Ret P n_script_tellKey [kv] w fun r w' => r = .tuple #[str (tellK k).1, .int .i64 ((tellK k).2 : Nat)] ∧ Ext No w w' := by
  refine W_script_tellKey ?_
  refine (c_May h).mono ?_
  rintro r w1 ⟨rfl, rfl⟩
  unfold tellK keyW
  by_cases h1 : 65535 < k.length
  · rw [if_neg (by omega)]
    refine xifT rfl ⟨?_, Ext.refl _ _⟩
    rw [if_pos h1]; rfl
  · rw [if_pos (by omega)]
    refine xifF rfl ?_
    rw [if_neg h1]
    refine h.len ?_
    refine xifE (fun e => ⟨?_, Ext.refl _ _⟩) fun e => ?_
    · have : k = [] := List.eq_nil_of_length_eq_zero (by omega)
      rw [if_pos this]; rfl
    · refine (c_Text h (by omega)).mono ?_
      rintro r w2 ⟨rfl, he⟩
      refine ⟨?_, he⟩
      rw [if_neg (by intro e1; subst e1; simp at e)]; rfl
theorem c_rTellKey (h : Bs w kv k) (hk : k.length ≤ 66000) : Ret P n_ref36_TellKey [kv] w fun r w' => r = .tuple #[str (tellK k).1, .int .i64 ((tellK k).2 : Nat)] ∧ Ext No w w' := by
  refine W_ref36_TellKey ?_
  unfold tellK keyW
  refine h.len ?_
  refine xifD (fun h1 => ⟨?_, Ext.refl _ _⟩) fun h1 => ?_
  · rw [if_pos (by omega)]; rfl
  · rw [if_neg (by omega)]
    refine h.len ?_
    refine xifE (fun e => ⟨?_, Ext.refl _ _⟩) fun e => ?_
    · have : k = [] := List.eq_nil_of_length_eq_zero (by omega)
      rw [if_pos this]; rfl
    · refine (c_rText h (by omega)).mono ?_
      rintro r w2 ⟨rfl, he⟩
      refine ⟨?_, he⟩
      rw [if_neg (by intro e1; subst e1; simp at e)]; rfl
theorem c_tellValue (ht : Tab w) {n : Nat} (h : n < 18446744073709551616) : Ret P n_script_tellValue [.int .u64 n] w fun r w' => r = str (decK n) ∧ Ext No w w' := by
  refine W_script_tellValue ?_
  exact (c_FormatUint ht h).mono fun r w' h => h
theorem tellK_short {k : Key} (h : k.length ≤ 300) : tellK k = (keyW k, 0) := by
  unfold tellK; rw [if_neg (by omega)]
/-! ### pairs -/
set_option maxRecDepth 100000 in
theorem c_tellPairs (ht : Tab w) (h : Ps w v l) (hl : l.length ≤ 60) (hk : ∀ p ∈ l, p.1.length ≤ 300) : Ret P n_script_tellPairs [v] w fun r w' => r = .tuple #[str (tellPs l), .int .i64 0] ∧ Ext No w w' := by
  have hv := h.v64
  refine W_script_tellPairs ?_
  refine h.len ?_
  refine xloop (fun n vs w' => ∃ (i : Nat) (a b c d vw : Value), vs = [.int .i64 i, a, b, c, d, vw] ∧ i ≤ l.length ∧ n = l.length - i ∧ Own w' w.heap.size T_string 1 vw i (((l.take i).map pairW).map str) ∧ Ext No w w') l.length
    ⟨0, _, _, _, _, _, rfl, by omega, rfl, Own.nil _ _ _ _, Ext.refl _ _⟩ ?_
  rintro n vs g w1 ⟨i, a, b, c, d, vw, rfl, hi, rfl, ho, he⟩
  refine xifD (fun hlt => ?_) fun hge => ?_
  · have hil : i < l.length := by omega
    have hmem := List.getElem_mem hil
    refine (h.extN he).var i rfl hil (T := T_api_Pair) (by kernel_rfl) fun pb w2 kv hb he2 hsz hkv => ?_
    have hE2 := he.transN he2
    refine hb.ld (o := 0) (v := kv) rfl ?_
    refine (c_tellKey (hkv.extN he2) (by have := hk _ hmem; omega)).mono ?_
    rintro r w3 ⟨rfl, he3⟩
    have hE3 := hE2.transN he3
    rw [tellK_short (hk _ hmem)]
    refine xifF rfl ?_
    have h1 := keyW_len (hk _ hmem)
    refine xcat (by simp; omega) ?_
    refine (hb.ext he3 fun h => h).ld (o := 1) (v := u64 l[i].2) rfl ?_
    refine (c_tellValue (ht.extN hE3) (hv _ hmem)).mono ?_
    rintro r w4 ⟨rfl, he4⟩
    have hE4 := hE3.transN he4
    have h2 := decK_len l[i].2 (hv _ hmem)
    refine xcat (by simp; omega) ?_
    refine app_str (p := keyW l[i].1 ++ [61] ++ decK l[i].2) hE4 (((ho.extN he2).extN he3).extN he4) (by omega) fun v' w5 ho5 he5 _ => ?_
    refine xi (r := ((i + 1 : Nat) : Int)) (by rw [wrapI (by omega)]; omega) ?_
    refine xnext (l.length - (i + 1)) (by omega) ⟨i + 1, _, _, _, _, v', rfl, by omega, rfl, ?_, he5⟩
    rw [← List.take_append_getElem hil, List.map_append]
    have e : keyW l[i].1 ++ [61] ++ decK l[i].2 = pairW l[i] := by unfold pairW; simp
    rw [e] at ho5
    exact ho5
  · have : i = l.length := by omega
    subst this
    rw [List.take_length] at ho
    refine xLen_sl ho.sl ?_
    unfold tellPs
    refine xifE (fun e => ⟨?_, he⟩) fun e => ?_
    · have : l = [] := List.eq_nil_of_length_eq_zero (by omega)
      rw [if_pos this]
    · have hss : Ss w1 vw (l.map pairW) := by
        have := ho.sl
        unfold Ss
        rw [List.length_map]
        exact this
      have := joinC_len (c := 44) (n := 700) (ps := l.map pairW) fun p hp => by
        obtain ⟨q, hq, rfl⟩ := List.mem_map.1 hp
        exact pairW_len (hk q hq) (hv q hq)
      rw [List.length_map] at this
      refine (c_Join hss (by omega)).mono ?_
      rintro r w2 ⟨rfl, he2⟩
      refine ⟨?_, he.transN he2⟩
      rw [if_neg (by intro e1; subst e1; simp at e)]
set_option maxRecDepth 100000 in
theorem c_rTellPairs (h : Ps w v l) (hl : l.length ≤ 60) (hk : ∀ p ∈ l, p.1.length ≤ 300) : Ret P n_ref36_TellPairs [v] w fun r w' => r = .tuple #[str (tellPs l), .int .i64 0] ∧ Ext No w w' := by
  have hv := h.v64
  refine W_ref36_TellPairs ?_
  refine h.len ?_
  unfold tellPs
  refine xifE (fun e => ⟨?_, Ext.refl _ _⟩) fun e => ?_
  · have : l = [] := List.eq_nil_of_length_eq_zero (by omega)
    rw [if_pos this]
  refine xloop (fun n vs w' => ∃ (i : Nat) (a b c d : Value), vs = [.int .i64 i, a, b, c, d, str (joinC 44 ((l.take i).map pairW))] ∧ i ≤ l.length ∧ n = l.length - i ∧ Ext No w w') l.length
    ⟨0, _, _, _, _, rfl, by omega, rfl, Ext.refl _ _⟩ ?_
  rintro n vs g w1 ⟨i, a, b, c, d, rfl, hi, rfl, he⟩
  have hjl : (joinC 44 ((l.take i).map pairW)).length ≤ 60000 := by
    have := joinC_len (c := 44) (n := 700) (ps := (l.take i).map pairW) fun p hp => by
      obtain ⟨q, hq, rfl⟩ := List.mem_map.1 hp
      exact pairW_len (hk q (List.mem_of_mem_take hq)) (hv q (List.mem_of_mem_take hq))
    rw [List.length_map, List.length_take] at this
    omega
  refine (h.extN he).len ?_
  refine xifD (fun hlt => ?_) fun hge => ?_
  · have hil : i < l.length := by omega
    have hmem := List.getElem_mem hil
    refine (h.extN he).key i rfl hil fun kv hkv => ?_
    refine (c_rTellKey hkv (by have := hk _ hmem; omega)).mono ?_
    rintro r w3 ⟨rfl, he3⟩
    have hE3 := he.transN he3
    rw [tellK_short (hk _ hmem)]
    refine xifF rfl ?_
    refine xj (fun vs w' => vs = [str (if i = 0 then [] else joinC 44 ((l.take i).map pairW) ++ [44])] ∧ w' = w3) ?_ ?_
    · refine xifD (fun h1 => ?_) fun h1 => ⟨?_, rfl⟩
      · refine xcat (by rw [List.length_singleton]; omega) ⟨?_, rfl⟩
        rw [if_neg (by omega)]
      · have : i = 0 := by omega
        subst this
        rfl
    rintro vs g w4 ⟨rfl, rfl⟩
    have h1 := keyW_len (hk _ hmem)
    have hpre : (if i = 0 then [] else joinC 44 ((l.take i).map pairW) ++ [44]).length ≤ 60001 := by
      split
      · simp
      · rw [List.length_append, List.length_singleton]; omega
    refine xcat (by simp; omega) ?_
    refine (h.extN hE3).val i rfl hil ?_
    refine (c_Digits (hv _ hmem)).mono ?_
    rintro r w5 ⟨rfl, rfl⟩
    have h2 := decK_len l[i].2 (hv _ hmem)
    refine xcat (by simp; omega) ?_
    have h3 : (keyW l[i].1 ++ [61] ++ decK l[i].2).length ≤ 700 := by simp; omega
    refine xcat (Nat.le_trans (Nat.add_le_add hpre h3) (by omega)) ?_
    refine xi (r := ((i + 1 : Nat) : Int)) (by rw [wrapI (by omega)]; omega) ?_
    refine xnext (l.length - (i + 1)) (by omega) ⟨i + 1, str (keyW l[i].1), .int .i64 0, c, d, ?_, by omega, rfl, hE3⟩
    rw [join_take hil]
    have e : keyW l[i].1 ++ [61] ++ decK l[i].2 = pairW l[i] := by unfold pairW; simp
    rw [← e]
    rfl
  · have : i = l.length := by omega
    subst this
    refine ⟨?_, he⟩
    rw [List.take_length, if_neg (by intro e1; subst e1; simp at e)]
    rfl
/-! ### changes -/

theorem chgE_kind {c : Chg} (h : chgE c = 0) : c.kind = 1 ∧ c.was = 0 ∨ c.kind = 2 ∧ c.is = 0 ∨ c.kind = 3 := by
  unfold chgE at h
  split at h
  · cases h
  · rename_i h1
    split at h
    · cases h
    · rename_i h2
      omega
set_option maxRecDepth 100000 in
theorem c_tellChange (ht : Tab w) (hkv : Bs w kv c.key) (hk : c.key.length ≤ 300) (hc : c.ok) : Ret P n_script_tellChange [.agg #[kv, .int .i64 c.kind, u64 c.was, u64 c.is]] w fun r w' => r = .tuple #[str (if chgE c = 0 then chgW c else []), .int .i64 (chgE c : Nat)] ∧ Ext No w w' := by
  refine W_script_tellChange ?_
  show XNew w [kv, .int .i64 c.kind, u64 c.was, u64 c.is] T_delta_Change _
  refine xnew fun b w1 hb hblk hz he => ?_
  refine hblk.ld (o := 0) (v := kv) rfl ?_
  refine (c_tellKey (hkv.extN he) (by omega)).mono ?_
  rintro r w2 ⟨rfl, he2⟩
  have hE2 := he.transN he2
  have hb2 := hblk.ext he2 fun h => h
  rw [tellK_short hk]
  refine xifF rfl ?_
  have hkl := keyW_len hk
  have hwl := decK_len c.was hc.1
  have hil := decK_len c.is hc.2
  refine xj (fun vs w' => vs = [.bool (decide (c.kind < 1 ∨ 3 < c.kind))] ∧ w' = w2) ?_ ?_
  · refine hb2.ld (o := 1) (v := .int .i64 c.kind) rfl ?_
    refine xifD (fun h => ⟨?c1, rfl⟩) fun h => ?_
    case c1 => rw [decide_eq_true (p := c.kind < 1 ∨ 3 < c.kind) (.inl h)]
    · refine hb2.ld (o := 1) (v := .int .i64 c.kind) rfl ⟨?_, rfl⟩
      by_cases e : 3 < c.kind
      · rw [decide_eq_true (p := c.kind < 1 ∨ 3 < c.kind) (.inr e), decide_eq_true e]
      · rw [decide_eq_false (p := c.kind < 1 ∨ 3 < c.kind) (by omega), decide_eq_false e]
  rintro vs g w3 ⟨rfl, rfl⟩
  refine xifD (fun h1 => ?_) fun h1 => ?_
  · have e : chgE c = 9 := by unfold chgE; rw [if_pos h1]
    refine ⟨?_, hE2⟩
    rw [e]; rfl
  refine xj (fun vs w' => vs = [.bool (decide (c.kind = 1 ∧ c.was ≠ 0 ∨ c.kind = 2 ∧ c.is ≠ 0))] ∧ w' = w3) ?_ ?_
  · refine xj (fun vs w' => vs = [.bool (decide (c.kind = 1 ∧ c.was ≠ 0))] ∧ w' = w3) ?_ ?_
    · refine hb2.ld (o := 1) (v := .int .i64 c.kind) rfl ?_
      refine xifE (fun h => ?_) fun h => ⟨?_, rfl⟩
      · refine hb2.ld (o := 2) (v := u64 c.was) rfl ⟨?_, rfl⟩
        by_cases e : c.was = 0
        · rw [e, decide_eq_false (p := c.kind = 1 ∧ 0 ≠ 0) (by simp)]; rfl
        · rw [decide_eq_true (p := c.kind = 1 ∧ c.was ≠ 0) ⟨h, e⟩]
          have : ((c.was : Int) != 0) = true := by simp; omega
          rw [this]
      · rw [decide_eq_false (p := c.kind = 1 ∧ c.was ≠ 0) fun e => h e.1]
    rintro vs g w4 ⟨rfl, rfl⟩
    refine xifD (fun h => ⟨?_, rfl⟩) fun h => ?_
    · rw [decide_eq_true (p := c.kind = 1 ∧ c.was ≠ 0 ∨ c.kind = 2 ∧ c.is ≠ 0) (.inl h)]
      show [Value.bool (decide (c.kind = 1 ∧ c.was ≠ 0))] = _
      rw [decide_eq_true h]
    · refine hb2.ld (o := 1) (v := .int .i64 c.kind) rfl ?_
      refine xifE (fun h2 => ?_) fun h2 => ⟨?_, rfl⟩
      · refine hb2.ld (o := 3) (v := u64 c.is) rfl ⟨?_, rfl⟩
        by_cases e : c.is = 0
        · rw [decide_eq_false (p := c.kind = 1 ∧ c.was ≠ 0 ∨ c.kind = 2 ∧ c.is ≠ 0) fun h3 => h3.elim h fun h4 => h4.2 e, e]; rfl
        · rw [decide_eq_true (p := c.kind = 1 ∧ c.was ≠ 0 ∨ c.kind = 2 ∧ c.is ≠ 0) (.inr ⟨h2, e⟩)]
          have : ((c.is : Int) != 0) = true := by simp; omega
          rw [this]
      · rw [decide_eq_false (p := c.kind = 1 ∧ c.was ≠ 0 ∨ c.kind = 2 ∧ c.is ≠ 0) fun h3 => h3.elim h fun h4 => h2 h4.1]
  rintro vs g w4 ⟨rfl, rfl⟩
  refine xifD (fun h2 => ?_) fun h2 => ?_
  · have e : chgE c = 3 := by unfold chgE; rw [if_neg h1, if_pos h2]
    refine ⟨?_, hE2⟩
    rw [e]; rfl
  have e0 : chgE c = 0 := by unfold chgE; rw [if_neg h1, if_neg h2]
  rw [e0, if_pos rfl]
  unfold chgW
  refine hb2.ld (o := 1) (v := .int .i64 c.kind) rfl ?_
  refine xifE (fun k1 => ?_) fun k1 => ?_
  · rw [if_pos k1]
    refine xcat (l := [43]) (by simp; omega) ?_
    refine xcat (by simp; omega) ?_
    refine hb2.ld (o := 3) (v := u64 c.is) rfl ?_
    refine (c_tellValue (ht.extN hE2) hc.2).mono ?_
    rintro r w5 ⟨rfl, he5⟩
    refine xcat (by simp; omega) ⟨?_, hE2.transN he5⟩
    simp
  rw [if_neg k1]
  refine xifE (fun k2 => ?_) fun k2 => ?_
  · rw [if_pos k2]
    refine xcat (l := [45]) (by simp; omega) ?_
    refine xcat (by simp; omega) ?_
    refine hb2.ld (o := 2) (v := u64 c.was) rfl ?_
    refine (c_tellValue (ht.extN hE2) hc.1).mono ?_
    rintro r w5 ⟨rfl, he5⟩
    refine xcat (by simp; omega) ⟨?_, hE2.transN he5⟩
    simp
  · rw [if_neg k2]
    refine xcat (l := [126]) (by simp; omega) ?_
    refine xcat (by simp; omega) ?_
    refine hb2.drew.ld (o := 2) (v := u64 c.was) rfl ?_
    refine hb2.drew.ld (o := 3) (v := u64 c.is) rfl ?_
    refine (c_tellValue (ht.extN hE2.drew) hc.1).mono ?_
    rintro r w5 ⟨rfl, he5⟩
    have hE5 := hE2.drew.transN he5
    refine ⟨(hb2.drew.ext he5 fun h => h).cell 3, ?_⟩
    refine xcat (by simp; omega) ?_
    refine xcat (by simp; omega) ?_
    refine (c_tellValue (ht.extN hE5) hc.2).mono ?_
    rintro r w6 ⟨rfl, he6⟩
    refine xcat (by simp; omega) ⟨?_, hE5.transN he6⟩
    simp
set_option maxRecDepth 100000 in
theorem c_tellChanges (ht : Tab w) (h : Cs w v lc) (hl : lc.length ≤ 60) (hk : ∀ c ∈ lc, c.key.length ≤ 300) : Ret P n_script_tellChanges [v] w fun r w' => r = .tuple #[str (tellCs lc).1, .int .i64 ((tellCs lc).2 : Nat)] ∧ Ext No w w' := by
  have hv := h.ok
  refine W_script_tellChanges ?_
  refine h.len ?_
  refine xloop (fun n vs w' => ∃ (i : Nat) (a b c d vw : Value), vs = [.int .i64 i, a, b, c, d, vw] ∧ i ≤ lc.length ∧ n = lc.length - i ∧ Own w' w.heap.size T_string 1 vw i (((lc.take i).map chgW).map str) ∧ (∀ c ∈ lc.take i, chgE c = 0) ∧ Ext No w w') lc.length
    ⟨0, _, _, _, _, _, rfl, by omega, rfl, Own.nil _ _ _ _, by simp, Ext.refl _ _⟩ ?_
  rintro n vs g w1 ⟨i, a, b, c, d, vw, rfl, hi, rfl, ho, hz, he⟩
  refine xifD (fun hlt => ?_) fun hge => ?_
  · have hil : i < lc.length := by omega
    have hmem := List.getElem_mem hil
    refine (h.extN he).var i rfl hil (T := T_delta_Change) (by kernel_rfl) fun pb w2 kv hb he2 hsz hkv => ?_
    have hE2 := he.transN he2
    refine hb.ldA rfl ?_
    refine (c_tellChange (ht.extN hE2) (hkv.extN he2) (hk _ hmem) (hv _ hmem)).mono ?_
    rintro r w3 ⟨rfl, he3⟩
    have hE3 := hE2.transN he3
    refine xifN (fun h0 => ⟨?_, hE3⟩) fun h0 => ?_
    · have h1 : chgE lc[i] ≠ 0 := by omega
      have := chsE_at hil hz h1
      unfold tellCs
      rw [this, if_neg h1]
    · have h1 : chgE lc[i] = 0 := by omega
      rw [if_pos h1]
      refine app_str (p := chgW lc[i]) hE3 ((ho.extN he2).extN he3) (by omega) fun v' w5 ho5 he5 _ => ?_
      refine xi (r := ((i + 1 : Nat) : Int)) (by rw [wrapI (by omega)]; omega) ?_
      refine xnext (lc.length - (i + 1)) (by omega) ⟨i + 1, _, _, _, _, v', rfl, by omega, rfl, ?_, fun c hc => ?_, he5⟩
      · rw [← List.take_append_getElem hil, List.map_append]
        exact ho5
      · rw [← List.take_append_getElem hil] at hc
        rcases List.mem_append.1 hc with hc | hc
        · exact hz c hc
        · rw [List.mem_singleton.1 hc]; exact h1
  · have : i = lc.length := by omega
    subst this
    rw [List.take_length] at ho hz
    refine xLen_sl ho.sl ?_
    unfold tellCs
    rw [chsE_all hz, if_pos rfl]
    refine xifE (fun e => ⟨?_, he⟩) fun e => ?_
    · have : lc = [] := List.eq_nil_of_length_eq_zero (by omega)
      rw [if_pos this]; rfl
    · have hss : Ss w1 vw (lc.map chgW) := by
        have := ho.sl
        unfold Ss
        rw [List.length_map]
        exact this
      have := joinC_len (c := 44) (n := 700) (ps := lc.map chgW) fun p hp => by
        obtain ⟨q, hq, rfl⟩ := List.mem_map.1 hp
        exact chgW_len (hk q hq) (hv q hq)
      rw [List.length_map] at this
      refine (c_Join hss (by omega)).mono ?_
      rintro r w2 ⟨rfl, he2⟩
      refine ⟨?_, he.transN he2⟩
      rw [if_neg (by intro e1; subst e1; simp at e)]; rfl
set_option maxRecDepth 100000 in
theorem c_rTellChanges (h : Cs w v lc) (hl : lc.length ≤ 60) (hk : ∀ c ∈ lc, c.key.length ≤ 300) : Ret P n_ref36_TellChanges [v] w fun r w' => r = .tuple #[str (tellCs lc).1, .int .i64 ((tellCs lc).2 : Nat)] ∧ Ext No w w' := by
  have hv := h.ok
  refine W_ref36_TellChanges ?_
  refine h.len ?_
  refine xifE (fun e => ⟨?_, Ext.refl _ _⟩) fun e => ?_
  · have : lc = [] := List.eq_nil_of_length_eq_zero (by omega)
    subst this; rfl
  refine xloop (fun n vs w' => ∃ (i : Nat) (a b c d x y z u : Value), vs = [.int .i64 i, a, b, c, d, str (joinC 44 ((lc.take i).map chgW)), x, y, z, u] ∧ i ≤ lc.length ∧ n = lc.length - i ∧ (∀ c ∈ lc.take i, chgE c = 0) ∧ Ext No w w') lc.length
    ⟨0, _, _, _, _, _, _, _, _, rfl, by omega, rfl, by simp, Ext.refl _ _⟩ ?_
  rintro n vs g w1 ⟨i, a, b, c, d, x, y, z, u, rfl, hi, rfl, hz, he⟩
  have hjl : (joinC 44 ((lc.take i).map chgW)).length ≤ 60000 := by
    have := joinC_len (c := 44) (n := 700) (ps := (lc.take i).map chgW) fun p hp => by
      obtain ⟨q, hq, rfl⟩ := List.mem_map.1 hp
      exact chgW_len (hk q (List.mem_of_mem_take hq)) (hv q (List.mem_of_mem_take hq))
    rw [List.length_map, List.length_take] at this
    omega
  refine (h.extN he).len ?_
  refine xifD (fun hlt => ?_) fun hge => ?_
  · have hil : i < lc.length := by omega
    have hmem := List.getElem_mem hil
    have hc := hv _ hmem
    have hkl := keyW_len (hk _ hmem)
    have hwl := decK_len lc[i].was hc.1
    have hisl := decK_len lc[i].is hc.2
    have hpre : (if i = 0 then [] else joinC 44 ((lc.take i).map chgW) ++ [44]).length ≤ 60001 := by
      split
      · simp
      · rw [List.length_append, List.length_singleton]; omega
    refine xj (fun vs w' => ∃ a b c d x y z u : Value, vs = [a, b, c, d, str (joinC 44 ((lc.take (i + 1)).map chgW)), x, y, z, u] ∧ chgE lc[i] = 0 ∧ Ext No w w') ?_ ?_
    · refine (h.extN he).var i rfl hil (T := T_ref29_Change) (by kernel_rfl) fun pb w2 kv hb he2 hsz hkv => ?_
      have hE2 := he.transN he2
      refine hb.ld (o := 0) (v := kv) rfl ?_
      refine (c_rTellKey (hkv.extN he2) (by have := hk _ hmem; omega)).mono ?_
      rintro r w3 ⟨rfl, he3⟩
      have hE3 := hE2.transN he3
      have hb3 := hb.ext he3 fun h => h
      rw [tellK_short (hk _ hmem)]
      refine xifF rfl ?_
      refine xj (fun vs w' => vs = [str (if i = 0 then [] else joinC 44 ((lc.take i).map chgW) ++ [44])] ∧ w' = w3) ?_ ?_
      · refine xifD (fun h1 => ?_) fun h1 => ⟨?_, rfl⟩
        · refine xcat (by rw [List.length_singleton]; omega) ⟨?_, rfl⟩
          rw [if_neg (by omega)]
        · have : i = 0 := by omega
          subst this
          rfl
      rintro vs g w4 ⟨rfl, rfl⟩
      refine xj (fun vs w' => vs = [.bool (decide (lc[i].kind < 1 ∨ 3 < lc[i].kind))] ∧ w' = w4) ?_ ?_
      · refine hb3.ld (o := 1) (v := .int .i64 lc[i].kind) rfl ?_
        refine xifD (fun h => ⟨?c1, rfl⟩) fun h => ?_
        case c1 => rw [decide_eq_true (p := lc[i].kind < 1 ∨ 3 < lc[i].kind) (.inl h)]
        · refine hb3.ld (o := 1) (v := .int .i64 lc[i].kind) rfl ⟨?_, rfl⟩
          by_cases e : 3 < lc[i].kind
          · rw [decide_eq_true (p := lc[i].kind < 1 ∨ 3 < lc[i].kind) (.inr e), decide_eq_true e]
          · rw [decide_eq_false (p := lc[i].kind < 1 ∨ 3 < lc[i].kind) (by omega), decide_eq_false e]
      rintro vs g w5 ⟨rfl, rfl⟩
      refine xifD (fun h1 => ?_) fun h1 => ?_
      · have e : chgE lc[i] = 9 := by unfold chgE; rw [if_pos h1]
        have := chsE_at hil hz (by omega)
        refine ⟨?_, hE3⟩
        unfold tellCs
        rw [this, e]; rfl
      refine xj (fun vs w' => vs = [.bool (decide (lc[i].kind = 1 ∧ lc[i].was ≠ 0 ∨ lc[i].kind = 2 ∧ lc[i].is ≠ 0))] ∧ w' = w5) ?_ ?_
      · have part : ¬ (lc[i].kind = 1 ∧ lc[i].was ≠ 0) → XLd w5 ((⟨pb, 0, none⟩ : Addr).add 1) fun v1051 => xEq v1051 (.int .i64 2) fun v1052 => xIf v1052 (XLd w5 ((⟨pb, 0, none⟩ : Addr).add 3) fun v1053 => xNe v1053 (.int .u64 0) fun v1054 => [v1054] = [.bool (decide (lc[i].kind = 1 ∧ lc[i].was ≠ 0 ∨ lc[i].kind = 2 ∧ lc[i].is ≠ 0))] ∧ w5 = w5) ([Value.bool false] = [.bool (decide (lc[i].kind = 1 ∧ lc[i].was ≠ 0 ∨ lc[i].kind = 2 ∧ lc[i].is ≠ 0))] ∧ w5 = w5) := by
          intro h
          refine hb3.ld (o := 1) (v := .int .i64 lc[i].kind) rfl ?_
          refine xifE (fun h2 => ?_) fun h2 => ⟨?_, rfl⟩
          · refine hb3.ld (o := 3) (v := u64 lc[i].is) rfl ⟨?_, rfl⟩
            by_cases e : lc[i].is = 0
            · rw [decide_eq_false (p := lc[i].kind = 1 ∧ lc[i].was ≠ 0 ∨ lc[i].kind = 2 ∧ lc[i].is ≠ 0) fun h3 => h3.elim h fun h4 => h4.2 e, e]; rfl
            · rw [decide_eq_true (p := lc[i].kind = 1 ∧ lc[i].was ≠ 0 ∨ lc[i].kind = 2 ∧ lc[i].is ≠ 0) (.inr ⟨h2, e⟩)]
              have : ((lc[i].is : Int) != 0) = true := by simp; omega
              rw [this]
          · rw [decide_eq_false (p := lc[i].kind = 1 ∧ lc[i].was ≠ 0 ∨ lc[i].kind = 2 ∧ lc[i].is ≠ 0) fun h3 => h3.elim h fun h4 => h2 h4.1]
        refine hb3.ld (o := 1) (v := .int .i64 lc[i].kind) rfl ?_
        refine xifE (fun h => ?_) fun h => part fun h4 => h h4.1
        refine hb3.ld (o := 2) (v := u64 lc[i].was) rfl ?_
        refine xifN (fun e => ⟨?_, rfl⟩) fun e => part fun h4 => h4.2 (by omega)
        rw [decide_eq_true (p := lc[i].kind = 1 ∧ lc[i].was ≠ 0 ∨ lc[i].kind = 2 ∧ lc[i].is ≠ 0) (.inl ⟨h, by omega⟩)]
      rintro vs g w6 ⟨rfl, rfl⟩
      refine xifD (fun h2 => ?_) fun h2 => ?_
      · have e : chgE lc[i] = 3 := by unfold chgE; rw [if_neg h1, if_pos h2]
        have := chsE_at hil hz (by omega)
        refine ⟨?_, hE3⟩
        unfold tellCs
        rw [this, e]; rfl
      have e0 : chgE lc[i] = 0 := by unfold chgE; rw [if_neg h1, if_neg h2]
      rw [join_take hil]
      refine hb3.ld (o := 1) (v := .int .i64 lc[i].kind) rfl ?_
      refine xifE (fun k1 => ?_) fun k1 => ?_
      · refine xcat (l := [43]) (by simp; omega) ?_
        refine xcat (by simp; omega) ?_
        refine hb3.ld (o := 3) (v := u64 lc[i].is) rfl ?_
        refine (c_Digits hc.2).mono ?_
        rintro r w7 ⟨rfl, rfl⟩
        refine xcat (by simp; omega) ?_
        refine xcat (Nat.le_trans (Nat.add_le_add hpre (show _ ≤ 700 by simp; omega)) (by omega)) ?_
        have ew : [43] ++ keyW lc[i].key ++ [61] ++ decK lc[i].is = chgW lc[i] := by unfold chgW; rw [if_pos k1]; simp
        rw [← ew]
        exact ⟨_, _, _, _, _, _, _, _, rfl, e0, hE3⟩
      refine hb3.ld (o := 1) (v := .int .i64 lc[i].kind) rfl ?_
      refine xifE (fun k2 => ?_) fun k2 => ?_
      · refine xcat (l := [45]) (by simp; omega) ?_
        refine xcat (by simp; omega) ?_
        refine hb3.ld (o := 2) (v := u64 lc[i].was) rfl ?_
        refine (c_Digits hc.1).mono ?_
        rintro r w7 ⟨rfl, rfl⟩
        refine xcat (by simp; omega) ?_
        refine xcat (Nat.le_trans (Nat.add_le_add hpre (show _ ≤ 700 by simp; omega)) (by omega)) ?_
        have ew : [45] ++ keyW lc[i].key ++ [61] ++ decK lc[i].was = chgW lc[i] := by unfold chgW; rw [if_neg k1, if_pos k2]; simp
        rw [← ew]
        exact ⟨_, _, _, _, _, _, _, _, rfl, e0, hE3⟩
      · refine xcat (l := [126]) (by simp; omega) ?_
        refine xcat (by simp; omega) ?_
        refine hb3.drew.ld (o := 2) (v := u64 lc[i].was) rfl ?_
        refine hb3.drew.ld (o := 3) (v := u64 lc[i].is) rfl ?_
        refine (c_Digits hc.1).mono ?_
        rintro r w7 ⟨rfl, rfl⟩
        refine ⟨hb3.cell 3, ?_⟩
        refine xcat (by simp; omega) ?_
        refine xcat (by simp; omega) ?_
        refine (c_Digits hc.2).mono ?_
        rintro r w8 ⟨rfl, rfl⟩
        refine xcat (by simp; omega) ?_
        refine xcat (Nat.le_trans (Nat.add_le_add hpre (show _ ≤ 700 by simp; omega)) (by omega)) ?_
        have ew : [126] ++ keyW lc[i].key ++ [61] ++ decK lc[i].was ++ [62] ++ decK lc[i].is = chgW lc[i] := by unfold chgW; rw [if_neg k1, if_neg k2]; simp
        rw [← ew]
        exact ⟨_, _, _, _, _, _, _, _, rfl, e0, hE3.drew⟩
    rintro vs g w3 ⟨a, b, c, d, x, y, z, u, rfl, e0, hE3⟩
    refine xi (r := ((i + 1 : Nat) : Int)) (by rw [wrapI (by omega)]; omega) ?_
    refine xnext (lc.length - (i + 1)) (by omega) ⟨i + 1, _, _, _, _, _, _, _, _, rfl, by omega, rfl, fun c hc => ?_, hE3⟩
    rw [← List.take_append_getElem hil] at hc
    rcases List.mem_append.1 hc with hc | hc
    · exact hz c hc
    · rw [List.mem_singleton.1 hc]; exact e0
  · have : i = lc.length := by omega
    subst this
    rw [List.take_length] at hz ⊢
    refine ⟨?_, he⟩
    unfold tellCs
    rw [chsE_all hz, if_pos rfl, if_neg (by intro e1; subst e1; simp at e)]
    rfl

/-! ### an operation's word -/
abbrev SG : List UInt8 := [97, 98, 110, 107, 116, 118, 102, 112, 99, 120]
theorem tup2 {a b : Value} {K : Value → World → Prop} {w : World} (k : K (.tuple #[a, b]) w) : K (.tuple #[a, b]) w := k
set_option maxRecDepth 100000 in
theorem c_tell (ht : Tab w) (ho : OpC w o cs) (hN : o.Near) {s : UInt8} (hs : s ∈ SG) : Ret P n_script_tell [.agg cs.toArray, .int .i32 s.toNat] w fun r w' => r = .tuple #[str (tellW o s).1, .int .i64 ((tellW o s).2 : Nat)] ∧ Ext No w w' := by
  obtain ⟨kv, tv, pv, cv, bv', rfl, h1, h2, h3, h4, h5⟩ := ho
  refine W_script_tell ?_
  show XNew w [.int .i64 o.do_, .int .i64 o.a, .int .i64 o.b, kv, tv, .bool o.opn, u64 o.val, .int .i64 o.n, .bool o.falls, pv, cv, bv'] T_artmap_Op _
  refine xnew fun b w1 hb hblk hz he => ?_
  have ht1 := ht.extN he
  have fin : ∀ {x : List UInt8 × Nat} {f : FuncId} {a : List Value}, tellW o s = x → Ret P f a w1 (fun r w' => r = Value.tuple #[str x.1, .int .i64 (x.2 : Nat)] ∧ Ext No w1 w') → Ret P f a w1 fun v1004 w1005 => xTup v1004 0 fun v1006 => xTup v1004 1 fun v1007 => (fun (r : Value) (w' : World) => r = Value.tuple #[str (tellW o s).1, .int .i64 ((tellW o s).2 : Nat)] ∧ Ext No w w') (Value.tuple #[v1006, v1007]) w1005 := by
    intro x f a e hr
    refine hr.mono ?_
    rintro r w2 ⟨rfl, he2⟩
    exact ⟨by rw [e], he.transN he2⟩
  simp only [SG, List.mem_cons, List.mem_nil_iff, or_false] at hs
  rcases hs with rfl | rfl | rfl | rfl | rfl | rfl | rfl | rfl | rfl | rfl
  · refine xifT rfl ?_
    refine hblk.ld (o := 1) rfl ?_
    exact fin rfl (c_tellNumber ht1 hN.a)
  · refine xifF rfl (xifT rfl ?_)
    refine hblk.ld (o := 2) rfl ?_
    exact fin rfl (c_tellNumber ht1 hN.b)
  · refine xifF rfl (xifF rfl (xifT rfl ?_))
    refine hblk.ld (o := 7) rfl ?_
    exact fin rfl (c_tellNumber ht1 hN.n)
  · refine xifF rfl (xifF rfl (xifF rfl (xifT rfl ?_)))
    refine hblk.ld (o := 3) rfl ?_
    exact fin rfl (c_tellKey (h1.extN he) hN.key)
  · refine xifF rfl (xifF rfl (xifF rfl (xifF rfl ?_)))
    refine xjd ?_
    refine xifT rfl ?_
    refine hblk.ld (o := 5) rfl ?_
    intro g
    cases eo : o.opn
    · refine xifF rfl (xifT rfl ?_)
      refine hblk.ld (o := 4) rfl ?_
      exact fin (by show (if o.opn then (([42] : List UInt8), 0) else tellK o.to) = _; rw [eo]; rfl) (c_tellKey (h2.extN he) hN.to)
    · refine xifT rfl ⟨?_, he⟩
      have : tellW o 116 = ([42], 0) := by show (if o.opn then (([42] : List UInt8), 0) else tellK o.to) = _; rw [eo]; rfl
      rw [this]; rfl
  · refine xifF rfl (xifF rfl (xifF rfl (xifF rfl ?_)))
    refine xjd ?_
    refine xifF rfl ?_
    intro g
    refine xifF rfl (xifF rfl (xifT rfl ?_))
    refine hblk.ld (o := 6) rfl ?_
    refine (c_tellValue ht1 hN.val).mono ?_
    rintro r w2 ⟨rfl, he2⟩
    exact ⟨rfl, he.transN he2⟩
  · refine xifF rfl (xifF rfl (xifF rfl (xifF rfl ?_)))
    refine xjd ?_
    refine xifF rfl ?_
    intro g
    refine xifF rfl (xifF rfl (xifF rfl ?_))
    refine xjd ?_
    refine xifT rfl ?_
    refine hblk.ld (o := 8) rfl ?_
    intro g
    have e1 : tellW o 102 = (if o.falls then [100, 111, 119, 110] else [117, 112], 0) := rfl
    cases eo : o.falls
    · refine xifF rfl (xifT rfl ⟨?_, he⟩)
      rw [e1, eo]; rfl
    · refine xifT rfl ⟨?_, he⟩
      rw [e1, eo]; rfl
  · refine xifF rfl (xifF rfl (xifF rfl (xifF rfl ?_)))
    refine xjd ?_
    refine xifF rfl ?_
    intro g
    refine xifF rfl (xifF rfl (xifF rfl ?_))
    refine xjd ?_
    refine xifF rfl ?_
    intro g
    refine xifF rfl (xifF rfl (xifT rfl ?_))
    refine hblk.ld (o := 9) rfl ?_
    exact fin rfl (c_tellPairs ht1 (h3.extN he) hN.prs hN.pk)
  · refine xifF rfl (xifF rfl (xifF rfl (xifF rfl ?_)))
    refine xjd ?_
    refine xifF rfl ?_
    intro g
    refine xifF rfl (xifF rfl (xifF rfl ?_))
    refine xjd ?_
    refine xifF rfl ?_
    intro g
    refine xifF rfl (xifF rfl (xifF rfl (xifT rfl ?_)))
    refine hblk.ld (o := 10) rfl ?_
    exact fin rfl (c_tellChanges ht1 (h4.extN he) hN.chg hN.ck)
  · refine xifF rfl (xifF rfl (xifF rfl (xifF rfl ?_)))
    refine xjd ?_
    refine xifF rfl ?_
    intro g
    refine xifF rfl (xifF rfl (xifF rfl ?_))
    refine xjd ?_
    refine xifF rfl ?_
    intro g
    refine xifF rfl (xifF rfl (xifF rfl (xifF rfl ?_)))
    refine hblk.ld (o := 11) rfl ?_
    exact fin rfl (c_tellKey (h5.extN he) hN.bytes)
set_option maxRecDepth 100000 in
theorem c_rTell (ho : OpC w o cs) (hN : o.Near) {s : UInt8} (hs : s ∈ SG) : Ret P n_ref36_tell [.agg cs.toArray, bv s] w fun r w' => r = .tuple #[str (tellW o s).1, .int .i64 ((tellW o s).2 : Nat)] ∧ Ext No w w' := by
  obtain ⟨kv, tv, pv, cv, bv', rfl, h1, h2, h3, h4, h5⟩ := ho
  refine W_ref36_tell ?_
  show XNew w [.int .i64 o.do_, .int .i64 o.a, .int .i64 o.b, kv, tv, .bool o.opn, u64 o.val, .int .i64 o.n, .bool o.falls, pv, cv, bv'] T_ref35_Op _
  refine xnew fun b w1 hb hblk hz he => ?_
  have fin : ∀ {x : List UInt8 × Nat} {f : FuncId} {a : List Value}, tellW o s = x → Ret P f a w1 (fun r w' => r = Value.tuple #[str x.1, .int .i64 (x.2 : Nat)] ∧ Ext No w1 w') → Ret P f a w1 fun v1004 w1005 => xTup v1004 0 fun v1006 => xTup v1004 1 fun v1007 => (fun (r : Value) (w' : World) => r = Value.tuple #[str (tellW o s).1, .int .i64 ((tellW o s).2 : Nat)] ∧ Ext No w w') (Value.tuple #[v1006, v1007]) w1005 := by
    intro x f a e hr
    refine hr.mono ?_
    rintro r w2 ⟨rfl, he2⟩
    exact ⟨by rw [e], he.transN he2⟩
  simp only [SG, List.mem_cons, List.mem_nil_iff, or_false] at hs
  rcases hs with rfl | rfl | rfl | rfl | rfl | rfl | rfl | rfl | rfl | rfl
  · refine xifT rfl ?_
    refine hblk.ld (o := 1) rfl ?_
    exact fin rfl (c_rTellNumber hN.a)
  · refine xifF rfl (xifT rfl ?_)
    refine hblk.ld (o := 2) rfl ?_
    exact fin rfl (c_rTellNumber hN.b)
  · refine xifF rfl (xifF rfl (xifT rfl ?_))
    refine hblk.ld (o := 7) rfl ?_
    exact fin rfl (c_rTellNumber hN.n)
  · refine xifF rfl (xifF rfl (xifF rfl (xifT rfl ?_)))
    refine hblk.ld (o := 3) rfl ?_
    exact fin rfl (c_rTellKey (h1.extN he) hN.key)
  · refine xifF rfl (xifF rfl (xifF rfl (xifF rfl (xifT rfl ?_))))
    refine hblk.ld (o := 5) rfl ?_
    cases eo : o.opn
    · refine xifF rfl ?_
      refine hblk.ld (o := 4) rfl ?_
      exact fin (by show (if o.opn then (([42] : List UInt8), 0) else tellK o.to) = _; rw [eo]; rfl) (c_rTellKey (h2.extN he) hN.to)
    · refine xifT rfl ⟨?_, he⟩
      have : tellW o 116 = ([42], 0) := by show (if o.opn then (([42] : List UInt8), 0) else tellK o.to) = _; rw [eo]; rfl
      rw [this]; rfl
  · refine xifF rfl (xifF rfl (xifF rfl (xifF rfl (xifF rfl (xifT rfl ?_)))))
    refine hblk.ld (o := 6) rfl ?_
    refine (c_Digits hN.val).mono ?_
    rintro r w2 ⟨rfl, rfl⟩
    exact ⟨rfl, he⟩
  · refine xifF rfl (xifF rfl (xifF rfl (xifF rfl (xifF rfl (xifF rfl (xifT rfl ?_))))))
    refine hblk.ld (o := 8) rfl ?_
    have e1 : tellW o 102 = (if o.falls then [100, 111, 119, 110] else [117, 112], 0) := rfl
    cases eo : o.falls
    · refine xifF rfl ⟨?_, he⟩
      rw [e1, eo]; rfl
    · refine xifT rfl ⟨?_, he⟩
      rw [e1, eo]; rfl
  · refine xifF rfl (xifF rfl (xifF rfl (xifF rfl (xifF rfl (xifF rfl (xifF rfl (xifT rfl ?_)))))))
    refine hblk.ld (o := 9) rfl ?_
    exact fin rfl (c_rTellPairs (h3.extN he) hN.prs hN.pk)
  · refine xifF rfl (xifF rfl (xifF rfl (xifF rfl (xifF rfl (xifF rfl (xifF rfl (xifF rfl (xifT rfl ?_))))))))
    refine hblk.ld (o := 10) rfl ?_
    exact fin rfl (c_rTellChanges (h4.extN he) hN.chg hN.ck)
  · refine xifF rfl (xifF rfl (xifF rfl (xifF rfl (xifF rfl (xifF rfl (xifF rfl (xifF rfl (xifF rfl ?_))))))))
    refine hblk.ld (o := 11) rfl ?_
    exact fin rfl (c_rTellKey (h5.extN he) hN.bytes)
/-! ### the line -/
theorem ba_get {l : List UInt8} {i : Nat} (h : i < l.length) : (ByteArray.mk l.toArray)[i]? = some l[i] := by
  have h1 : i < (ByteArray.mk l.toArray).size := by simpa [ByteArray.size] using h
  rw [getElem?_pos (ByteArray.mk l.toArray) i h1]; rfl
theorem xtup {vs : Array Value} {i : Nat} {v : Value} {K : Value → Prop} (h : vs.toList[i]? = some v) (k : K v) : xTup (.tuple vs) i K := by
  show (match vs.toList[i]? with | some v => K v | none => False)
  rw [h]; exact k
theorem textK_err {i : Nat} (h0 : nameK o.do_ ≠ []) (hi : i < (signsK o.do_).length) (hz : ∀ c ∈ (signsK o.do_).take i, (tellW o c).2 = 0) (h : (tellW o (signsK o.do_)[i]).2 ≠ 0) : textK o = ([], (tellW o (signsK o.do_)[i]).2) := by
  have := wsE_at hi hz h
  unfold textK
  rw [if_neg h0, this, if_neg h]
theorem textK_all (h0 : nameK o.do_ ≠ []) (hz : ∀ c ∈ signsK o.do_, (tellW o c).2 = 0) : textK o = (lineK o, 0) := by
  unfold textK
  rw [if_neg h0, wsE_all hz, if_pos rfl]
set_option maxRecDepth 100000 in
theorem c_sText (ht : Tab w) (ho : OpC w o cs) (hN : o.Near) : Ret P n_script_Text [.agg cs.toArray] w fun r w' => r = .tuple #[str (textK o).1, .int .i64 ((textK o).2 : Nat)] ∧ Ext No w w' := by
  refine W_script_Text ?_
  show XNew w cs T_artmap_Op _
  refine xnew fun b w1 hb hblk hz he => ?_
  have hdo : cs[0]? = some (.int .i64 o.do_) := by obtain ⟨kv, tv, pv, cv, bv', rfl, -⟩ := ho; rfl
  refine hblk.ld (o := 0) hdo ?_
  refine c_form.mono ?_
  rintro r w2 ⟨rfl, he2⟩
  have hE2 := he.transN he2
  refine xtup (v := str (nameK o.do_)) rfl (xtup (v := str (signsK o.do_)) rfl ?_)
  refine xseq ?_
  refine xifD (fun h0 => ⟨?_, hE2⟩) fun h0 => ?_
  · unfold textK; rw [if_pos h0]; rfl
  show XNew w2 [str (nameK o.do_)] T_string _
  refine xnew fun sb w3 hsb hsblk hsz he3 => ?_
  have hE3 := hE2.transN he3
  refine xrange fun ib w4 hib hz4 hit he4 => ?_
  have hE4 := hE3.transN he4
  have hb4 : Blk w4 b cs T_artmap_Op := ((hblk.ext he2 fun h => h).ext he3 fun h => h).ext he4 fun h => h
  have hs4 : Blk w4 sb [str (nameK o.do_)] T_string := hsblk.ext he4 fun h => h
  have hsz1 := hE2.size
  refine xloop (fun n vs w' => ∃ (i : Nat) (x y z u t vw : Value), vs = [x, y, z, u, t, vw] ∧ i ≤ (signsK o.do_).length ∧ n = (signsK o.do_).length - i ∧ It w' ib (signsK o.do_) i ∧ Blk w' b cs T_artmap_Op ∧
      Own w' w.heap.size T_string 1 vw (i + 1) ((nameK o.do_ :: ((signsK o.do_).take i).map fun s => (tellW o s).1).map str) ∧ (∀ c ∈ (signsK o.do_).take i, (tellW o c).2 = 0) ∧ Ext No w w') (signsK o.do_).length
    ⟨0, _, _, _, _, _, _, rfl, by omega, rfl, hit, hb4, Own.of (by omega) hs4 (Nat.le_refl _) (by unfold maxLen; omega) rfl rfl rfl, by simp, hE4⟩ ?_
  rintro n vs g w5 ⟨i, x, y, z, u, t, vw, rfl, hi, rfl, hit5, hb5, ho5, hz5, hE5⟩
  have hl5 := signsK_len o.do_
  by_cases hil : i < (signsK o.do_).length
  · obtain ⟨hs128, hsg⟩ := signsK_small (List.getElem_mem hil)
    refine xnextA hit5 hil hs128 fun w6 hit6 hz6 he6 => ?_
    refine xifT rfl ?_
    have hE6 := hE5.trans1 he6 (by omega)
    have hne : b ≠ ib := fun e => It.ne hit5 hb5 e.symm
    have hb6 := hb5.ext he6 hne
    refine hb6.ldA ho.len ?_
    refine (c_tell (ht.extN hE6) (ho.extN hE6) hN hsg).mono ?_
    rintro r w7 ⟨rfl, he7⟩
    have hE7 := hE6.transN he7
    refine xifN (fun h => ⟨?_, hE7⟩) fun h => ?_
    · rw [textK_err h0 hil hz5 (by omega)]
    · have h : (tellW o (signsK o.do_)[i]).2 = 0 := by omega
      have ho6 : Own w6 w.heap.size T_string 1 vw (i + 1) ((nameK o.do_ :: ((signsK o.do_).take i).map fun s => (tellW o s).1).map str) := ho5.ext he6 fun g hg e => own_neI ho5 hit5 (by rw [hg, show g = ib from e])
      have ho7 := ho6.extN he7
      refine app_str (p := (tellW o (signsK o.do_)[i]).1) hE7 ho7 (by omega) fun v' w8 ho8 hE8 he8 => ?_
      have hit7 := hit6.ext he7 fun h => h
      have hb7 := hb6.ext he7 fun h => h
      refine xnext ((signsK o.do_).length - (i + 1)) (by omega) ⟨i + 1, _, _, _, _, _, v', rfl, by omega, rfl, hit7.ext he8 fun e => own_neI ho7 hit7 e, hb7.ext he8 fun e => own_neT ho7 hb7 (by decide) e, ?_, fun c hc => ?_, hE8⟩
      · rw [← List.take_append_getElem hil, List.map_append]
        exact ho8
      · rw [← List.take_append_getElem hil] at hc
        rcases List.mem_append.1 hc with hc | hc
        · exact hz5 c hc
        · rw [List.mem_singleton.1 hc]; exact h
  · have : i = (signsK o.do_).length := by omega
    subst this
    refine xnextE hit5 (Nat.le_refl _) ?_
    refine xifF rfl ?_
    rw [List.take_length] at ho5 hz5
    have hss : Ss w5 vw (nameK o.do_ :: (signsK o.do_).map fun s => (tellW o s).1) := by
      have := ho5.sl
      unfold Ss
      rw [List.length_cons, List.length_map]
      exact this
    refine (c_Join hss (Nat.le_trans (lineK_len hN) (by omega))).mono ?_
    rintro r w6 ⟨rfl, he6⟩
    refine ⟨?_, hE5.transN he6⟩
    rw [textK_all h0 hz5]
    rfl
set_option maxRecDepth 100000 in
theorem c_rText36 (ho : OpC w o cs) (hN : o.Near) : Ret P n_ref36_Text [.agg cs.toArray] w fun r w' => r = .tuple #[str (textK o).1, .int .i64 ((textK o).2 : Nat)] ∧ Ext No w w' := by
  refine W_ref36_Text ?_
  show XNew w cs T_ref35_Op _
  refine xnew fun b w1 hb hblk hz he => ?_
  have hdo : cs[0]? = some (.int .i64 o.do_) := by obtain ⟨kv, tv, pv, cv, bv', rfl, -⟩ := ho; rfl
  refine hblk.ld (o := 0) hdo ?_
  refine c_rName.mono ?_
  rintro r w2 ⟨rfl, he2⟩
  have hE2 := he.transN he2
  refine xseq ?_
  refine xifD (fun h0 => ⟨?_, hE2⟩) fun h0 => ?_
  · unfold textK; rw [if_pos h0]; rfl
  have hb2 := hblk.ext he2 fun h => h
  refine hb2.ld (o := 0) hdo ?_
  refine c_rForm.mono ?_
  rintro r w3 ⟨rfl, he3⟩
  have hE3 := hE2.transN he3
  have hb3 := hb2.ext he3 fun h => h
  refine xloop (fun n vs w' => ∃ (i : Nat) (y z u t : Value), vs = [.int .i64 i, y, z, u, t, str (joinC 32 (nameK o.do_ :: ((signsK o.do_).take i).map fun s => (tellW o s).1))] ∧ i ≤ (signsK o.do_).length ∧ n = (signsK o.do_).length - i ∧ Blk w' b cs T_ref35_Op ∧
      (∀ c ∈ (signsK o.do_).take i, (tellW o c).2 = 0) ∧ Ext No w w') (signsK o.do_).length
    ⟨0, _, _, _, _, rfl, by omega, rfl, hb3, by simp, hE3⟩ ?_
  rintro n vs g w5 ⟨i, y, z, u, t, rfl, hi, rfl, hb5, hz5, hE5⟩
  have hl5 := signsK_len o.do_
  have hjl : (joinC 32 (nameK o.do_ :: ((signsK o.do_).take i).map fun s => (tellW o s).1)).length ≤ 1000000 := by
    have := joinC_len (c := 32) (n := 140000) (ps := nameK o.do_ :: ((signsK o.do_).take i).map fun s => (tellW o s).1) fun p hp => by
      rcases List.mem_cons.1 hp with rfl | hp
      · have := nameK_len o.do_; omega
      · obtain ⟨s, -, rfl⟩ := List.mem_map.1 hp
        exact tellW_len hN s
    rw [List.length_cons, List.length_map, List.length_take] at this
    omega
  refine xlens ?_
  refine xifD (fun hlt => ?_) fun hge => ?_
  · have hil : i < (signsK o.do_).length := by omega
    obtain ⟨hs128, hsg⟩ := signsK_small (List.getElem_mem hil)
    refine hb5.drew.ldA ho.len ?_
    refine xixstr i (signsK o.do_)[i] rfl (ba_get hil) ?_
    refine (c_rTell (ho.extN hE5.drew) hN hsg).mono ?_
    rintro r w7 ⟨rfl, he7⟩
    have hE7 := hE5.drew.transN he7
    have hwl := tellW_len hN (signsK o.do_)[i]
    refine xifN (fun h => ⟨?_, hE7⟩) fun h => ?_
    · rw [textK_err h0 hil hz5 (by omega)]
    · have h : (tellW o (signsK o.do_)[i]).2 = 0 := by omega
      refine xcat (l := [32]) (by simp; omega) ?_
      refine xcat (Nat.le_trans (Nat.add_le_add hjl (show _ ≤ 140001 by simp; omega)) (by omega)) ?_
      refine xi (r := ((i + 1 : Nat) : Int)) (by rw [wrapI (by omega)]; omega) ?_
      have ej : joinC 32 (nameK o.do_ :: ((signsK o.do_).take (i + 1)).map fun s => (tellW o s).1) = joinC 32 (nameK o.do_ :: ((signsK o.do_).take i).map fun s => (tellW o s).1) ++ ([32] ++ (tellW o (signsK o.do_)[i]).1) := by
        rw [← List.take_append_getElem hil, List.map_append]
        exact joinC_snoc (ps := nameK o.do_ :: ((signsK o.do_).take i).map fun s => (tellW o s).1) (by simp)
      refine xnext ((signsK o.do_).length - (i + 1)) (by omega) ⟨i + 1, _, _, _, _, by rw [ej], by omega, rfl, hb5.drew.ext he7 fun h => h, fun c hc => ?_, hE7⟩
      rw [← List.take_append_getElem hil] at hc
      rcases List.mem_append.1 hc with hc | hc
      · exact hz5 c hc
      · rw [List.mem_singleton.1 hc]; exact h
  · have : i = (signsK o.do_).length := by omega
    subst this
    rw [List.take_length] at hz5
    refine ⟨?_, hE5⟩
    rw [textK_all h0 hz5]
    show Value.tuple #[str (joinC 32 (nameK o.do_ :: ((signsK o.do_).take (signsK o.do_).length).map fun s => (tellW o s).1)), .int .i64 0] = _
    rw [List.take_length]
    rfl
end
end Go.Proofs.YtbfnagdpanfphaaGreatDoor
end
