/-  sync.Once, one goroutine: the function is called once, and then it is done.  -/
import Derived.Test.YtlhjfenpmnejoaaGreatSAt
import Derived.Test.YtlhjfenpmnejoaaGreatLib
import Derived.WalkKit
import Derived.Tactics
import Derived.Tactics2
import Derived.Defers
import Derived.Laws.Pointers
import Derived.Laws.LoneSync
import Derived.RegionTactic
import Derived.RegionCalls
import Derived.ChangeAlike
namespace Go.Proofs.YtlhjfenpmnejoaaGreat
open Go Go.RowKit X
set_option linter.unusedSimpArgs false
set_option linter.unusedVariables false
namespace Onc
theorem disable (w : World) : (callFunc 154 #[]).run Tryz.prog w = .ok (.value (.tuple #[])) w := run_call_mark0 Tryz.func154 (by kernel_rfl) (by kernel_rfl) (by kernel_rfl) .disable (by kernel_rfl) w
theorem enable (w : World) : (callFunc 156 #[]).run Tryz.prog w = .ok (.value (.tuple #[])) w := run_call_mark0 Tryz.func156 (by kernel_rfl) (by kernel_rfl) (by kernel_rfl) .enable (by kernel_rfl) w
theorem acquire (a : Addr) (w : World) : (callFunc 157 #[.pointer (some a)]).run Tryz.prog w = .ok (.value (.tuple #[])) w := run_call_marked Tryz.func157 (by kernel_rfl) (by kernel_rfl) (by kernel_rfl) .acquire (by kernel_rfl) a w
theorem releaseMerge (a : Addr) (w : World) : (callFunc 159 #[.pointer (some a)]).run Tryz.prog w = .ok (.value (.tuple #[])) w := run_call_marked Tryz.func159 (by kernel_rfl) (by kernel_rfl) (by kernel_rfl) .releaseMerge (by kernel_rfl) a w
theorem store_deferred (a : Addr) (x : Value) (u : FrameMode) (w : World) (hc : w.cell? a = some x) (hz : w.frozen? a = false) :
    CallsD Tryz.prog 110 #[.pointer (some a), .bool true] u w fun e u' w' => u' = u ∧ (e = .returned (.tuple #[]) ∧ w' = w.drew.setCell a (.int .u32 1)) := by
  have hc' : w.drew.cell? a = some x := by go_simp
  have hz' : w.drew.frozen? a = false := by go_simp
  have hst := run_call_store (P := Tryz.prog) Tryz.func134 (by kernel_rfl) (by kernel_rfl) (by kernel_rfl) (by kernel_rfl) (k := .u32) (y := 1) hc' hz'
  go_enter_d Tryz.func110, Tryz.ntmps110
  go_wp2
  go_region_calls
  all_goals (go_end0; exact ⟨rfl, rfl⟩)
set_option maxRecDepth 100000 in
theorem unlock_deferred (a : Addr) (u : FrameMode) (w : World) (hc : w.cell? a = some (.int .i32 1)) (hz : w.frozen? a = false) :
    CallsD Tryz.prog 109 #[.pointer (some a)] u w fun e u' w' => u' = u ∧ (e = .returned (.tuple #[]) ∧ w' = w.setCell a (.int .i32 0)) := by
  have hd := disable
  have he := enable
  have hr := releaseMerge
  have hadd := run_call_add (P := Tryz.prog) Tryz.func160 (by kernel_rfl) (by kernel_rfl) (by kernel_rfl) .i32 (by kernel_rfl) (y := -1) (s := 0) hc hz (by simp [go_sem]; rfl)
  have hcv := run_convert_to_unsafe (P := Tryz.prog) (src := 205) (dst := 209) Tryz.underlying205 Tryz.underlying209 (by kernel_rfl) hc
  go_enter_d Tryz.func109, Tryz.ntmps109
  go_wp2
  go_end0
  go_wp2
  go_end0
  exact ⟨rfl, rfl⟩
set_option maxRecDepth 100000 in
theorem lock_free (a : Addr) (w : World) (hc : w.cell? a = some (.int .i32 0)) (hz : w.frozen? a = false) :
    Calls Tryz.prog 108 #[.pointer (some a)] w fun e w' => e = .returned (.tuple #[]) ∧ w' = w.setCell a (.int .i32 1) := by
  have hd := disable
  have he := enable
  have ha := acquire
  have hcas := run_call_cas_hit (P := Tryz.prog) Tryz.func155 (by kernel_rfl) (by kernel_rfl) (by kernel_rfl) .i32 (by kernel_rfl) (y := 1) hc hz
  have hc' : (w.setCell a (.int .i32 1)).cell? a = some (.int .i32 1) := World.cell?_setCell_same w a _ hc
  have hcv := run_convert_to_unsafe (P := Tryz.prog) (src := 205) (dst := 209) Tryz.underlying205 Tryz.underlying209 (by kernel_rfl) hc'
  go_enter Tryz.func108, Tryz.ntmps108
  go_wp2
  first | go_end0 | (simp only [Exit.inBlock, Exit.then]; refine bodyPost_ret (results_none rfl _ _ _) rfl ?_) | refine bodyPost_ret (results_none rfl _ _ _) rfl ?_
  go_wp2
  go_end0
  exact ⟨rfl, rfl⟩
set_option maxRecDepth 100000 in
theorem load_no (a : Addr) (w : World) (hc : w.cell? a = some (.int .u32 0)) : Calls Tryz.prog 86 #[.pointer (some a)] w fun e w' => e = .returned (.bool false) ∧ w' = w := by
  have hl := run_call_load (P := Tryz.prog) Tryz.func107 (by kernel_rfl) (by kernel_rfl) (by kernel_rfl) .u32 (by kernel_rfl) (w := w) (a := a) (x := 0) hc
  go_enter Tryz.func86, Tryz.ntmps86
  go_wp2
  go_ret
  exact ⟨rfl, rfl⟩
set_option maxRecDepth 100000 in
set_option maxHeartbeats 1600000 in
theorem slow_any (b off : Nat) (p1 p2 : Addr) (w : World) (R : World → Prop)
    (h0 : w.cell? ⟨b, off, none⟩ = some (.int .u32 0)) (h1 : w.cell? ⟨b, off + 1, none⟩ = some (.int .i32 0))
    (f1 : w.frozen? ⟨b, off + 1, none⟩ = false)
    (hcall : Calls Tryz.prog 68 #[.pointer (some p1), .pointer (some p2)] (w.setCell ⟨b, off + 1, none⟩ (.int .i32 1)) fun e w' => e = .returned (.tuple #[]) ∧ R w' ∧
      (∃ x, w'.cell? ⟨b, off, none⟩ = some x) ∧ w'.frozen? ⟨b, off, none⟩ = false ∧ w'.cell? ⟨b, off + 1, none⟩ = some (.int .i32 1) ∧ w'.frozen? ⟨b, off + 1, none⟩ = false) :
    Calls Tryz.prog 87 #[.pointer (some ⟨b, off, none⟩), .func (.func 68) #[] #[.pointer (some p1), .pointer (some p2)]] w fun e w' => e = .returned (.tuple #[]) ∧
      ∃ w2, R w2 ∧ w' = (w2.drew.setCell ⟨b, off, none⟩ (.int .u32 1)).setCell ⟨b, off + 1, none⟩ (.int .i32 0) := by
  have hload := load_no ⟨b, off, none⟩ (w.setCell ⟨b, off + 1, none⟩ (.int .i32 1)) ((World.cell?_setCell_other _ ⟨b, off + 1, none⟩ ⟨b, off, none⟩ _ (by simp)).trans h0)
  have hl := run_call_load (P := Tryz.prog) Tryz.func107 (by kernel_rfl) (by kernel_rfl) (by kernel_rfl) .u32 (by kernel_rfl) (w := w.setCell ⟨b, off + 1, none⟩ (.int .i32 1)) (a := ⟨b, off, none⟩) (x := 0) ((World.cell?_setCell_other _ ⟨b, off + 1, none⟩ ⟨b, off, none⟩ _ (by simp)).trans h0)
  have hnot : ∀ (x : Bool) (w : World), (Op.unary .not (.bool x)).run Tryz.prog w = .ok (.bool (!x)) w := fun _ _ => rfl
  go_enter_defers Tryz.func87, Tryz.ntmps87
  go_wp2_with (first | (go_at_call 108; refine (lock_free ⟨b, off + 1, none⟩ _ (by go_simp) (by go_simp)).mono ?_; rintro e w' ⟨rfl, rfl⟩) | (go_at_call 86; refine hload.mono ?_; rintro e w' ⟨rfl, rfl⟩) | (go_at_call 68; refine hcall.mono ?_; rintro e w' ⟨rfl, hR, ⟨x, hx⟩, hz, h1', hz1⟩))
  refine leaves_cons (f := 110) (args := #[.pointer (some ⟨b, off, none⟩), .bool true]) (by simp) (by simp [go_sem]) ?_
  refine (store_deferred ⟨b, off, none⟩ x .returning _ ?_ ?_).mono ?_
  · exact hx
  · exact hz
  rintro e u' w'' ⟨rfl, rfl, rfl⟩
  refine leaves_cons (f := 109) (args := #[.pointer (some ⟨b, off + 1, none⟩)]) (by simp [settle]) (by simp [go_sem]) ?_
  refine (unlock_deferred ⟨b, off + 1, none⟩ _ _ ?_ ?_).mono ?_
  · refine (World.cell?_setCell_other _ ⟨b, off, none⟩ ⟨b, off + 1, none⟩ _ (by simp)).trans ?_
    rw [World.cell?_drew]
    exact h1'
  · simp [hz1]
  rintro e u' w'' ⟨rfl, rfl, rfl⟩
  simp [Leaves, settle, results, Tryz.results87]
  exact ⟨_, hR, rfl⟩
theorem r_no {w : World} {a : Addr} (hc : w.cell? a = some (.int .u32 0)) : Ret P n_atomic_Bool_Load [.pointer (some a)] w fun v w' => v = .bool false ∧ w' = w := ⟨(load_no a w hc).mono fun e w' h => ⟨_, h.1, rfl, h.2⟩⟩
theorem r_slow {w : World} {b off : Nat} {p1 p2 : Addr} {R : World → Prop} (h0 : w.cell? ⟨b, off, none⟩ = some (.int .u32 0)) (h1 : w.cell? ⟨b, off + 1, none⟩ = some (.int .i32 0)) (f1 : w.frozen? ⟨b, off + 1, none⟩ = false)
    (hcall : Ret P n_meter_Once_Get_1 [.pointer (some p1), .pointer (some p2)] (w.setCell ⟨b, off + 1, none⟩ (.int .i32 1)) fun v w' => v = .tuple #[] ∧ R w' ∧
      (∃ x, w'.cell? ⟨b, off, none⟩ = some x) ∧ w'.frozen? ⟨b, off, none⟩ = false ∧ w'.cell? ⟨b, off + 1, none⟩ = some (.int .i32 1) ∧ w'.frozen? ⟨b, off + 1, none⟩ = false) :
    Ret P n_sync_Once_doSlow [.pointer (some ⟨b, off, none⟩), .func (.func n_meter_Once_Get_1) #[] #[.pointer (some p1), .pointer (some p2)]] w fun v w' => v = .tuple #[] ∧ ∃ w2, R w2 ∧ w' = (w2.drew.setCell ⟨b, off, none⟩ (.int .u32 1)).setCell ⟨b, off + 1, none⟩ (.int .i32 0) :=
  ⟨(slow_any b off p1 p2 w R h0 h1 f1 (hcall.out.mono fun e w' ⟨v, he, hv, h⟩ => ⟨by rw [he, hv], h⟩)).mono fun e w' h => ⟨_, h.1, rfl, h.2⟩⟩
/-- the first time: the function is called -/
theorem first {w : World} {b off : Nat} {p1 p2 : Addr} {R : World → Prop} {K : Value → World → Prop} (h0 : w.cell? ⟨b, off, none⟩ = some (.int .u32 0)) (h1 : w.cell? ⟨b, off + 1, none⟩ = some (.int .i32 0)) (f1 : w.frozen? ⟨b, off + 1, none⟩ = false)
    (hcall : Ret P n_meter_Once_Get_1 [.pointer (some p1), .pointer (some p2)] (w.setCell ⟨b, off + 1, none⟩ (.int .i32 1)) fun v w' => v = .tuple #[] ∧ R w' ∧
      (∃ x, w'.cell? ⟨b, off, none⟩ = some x) ∧ w'.frozen? ⟨b, off, none⟩ = false ∧ w'.cell? ⟨b, off + 1, none⟩ = some (.int .i32 1) ∧ w'.frozen? ⟨b, off + 1, none⟩ = false)
    (k : ∀ w2, R w2 → K (.tuple #[]) ((w2.drew.setCell ⟨b, off, none⟩ (.int .u32 1)).setCell ⟨b, off + 1, none⟩ (.int .i32 0))) :
    Ret P n_sync_Once_Do [.pointer (some ⟨b, off, none⟩), .func (.func n_meter_Once_Get_1) #[] #[.pointer (some p1), .pointer (some p2)]] w K := by
  refine W_sync_Once_Do ?_
  show Ret P n_atomic_Bool_Load [.pointer (some ⟨b, off, none⟩)] w _
  refine (r_no h0).mono ?_
  rintro _ w1 ⟨rfl, rfl⟩
  refine xifT rfl ?_
  refine (r_slow h0 h1 f1 hcall).mono ?_
  rintro _ w3 ⟨rfl, w2, hR, rfl⟩
  exact k w2 hR
set_option maxRecDepth 100000 in
theorem load_yes (a : Addr) (w : World) (hc : w.cell? a = some (.int .u32 1)) : Calls Tryz.prog 86 #[.pointer (some a)] w fun e w' => e = .returned (.bool true) ∧ w' = w := by
  have hl := run_call_load (P := Tryz.prog) Tryz.func107 (by kernel_rfl) (by kernel_rfl) (by kernel_rfl) .u32 (by kernel_rfl) (w := w) (a := a) (x := 1) hc
  go_enter Tryz.func86, Tryz.ntmps86
  go_wp2
  go_ret
  exact ⟨rfl, rfl⟩
theorem r_yes {w : World} {a : Addr} (hc : w.cell? a = some (.int .u32 1)) : Ret P n_atomic_Bool_Load [.pointer (some a)] w fun v w' => v = .bool true ∧ w' = w := ⟨(load_yes a w hc).mono fun e w' h => ⟨_, h.1, rfl, h.2⟩⟩
/-- later: nothing is done -/
theorem later {w : World} {b off : Nat} {v : Value} {K : Value → World → Prop} (h0 : w.cell? ⟨b, off, none⟩ = some (.int .u32 1)) (k : K (.tuple #[]) w) :
    Ret P n_sync_Once_Do [.pointer (some ⟨b, off, none⟩), v] w K := by
  refine W_sync_Once_Do ?_
  show Ret P n_atomic_Bool_Load [.pointer (some ⟨b, off, none⟩)] w _
  refine (r_yes h0).mono ?_
  rintro _ w1 ⟨rfl, rfl⟩
  exact xifF rfl k
end Onc
end Go.Proofs.YtlhjfenpmnejoaaGreat
