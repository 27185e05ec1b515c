/- The law InternNone: tables that are not there. -/
import Derived.Test.YtpegloapdkfgiaaNI
import Derived.Laws.ResultCell
namespace Go.Proofs.Ytpegloapdkfgiaa
open Go.RowKit
set_option linter.unusedVariables false

theorem nilFind (w : World) (x : Int) : Calls Try.prog 13 #[.pointer none, .int .u64 x] w fun e w' => e = .returned (.tuple #[.int .i64 0, .bool false]) ∧ Fx No w w' := by
  go_enter Try.func13, Try.ntmps13
  go_wp2
  go_ret2
  exact ⟨rfl, Fx.refl _ _⟩
theorem nilName (w : World) (n : Int) : Calls Try.prog 14 #[.pointer none, .int .i64 n] w fun e w' => e = .returned (.tuple #[.int .u64 0, .int .i64 1]) ∧ Fx No w w' := by
  go_enter Try.func14, Try.ntmps14
  go_wp2
  go_ret2
  exact ⟨rfl, Fx.refl _ _⟩
theorem nilAdd (w : World) (a : Option Addr) (l c : Nat) : Calls Try.prog 10 #[.pointer none, .slice a l c] w fun e w' => e = .returned (.int .i64 (-1)) ∧ Fx No w w' := by
  go_enter Try.func10, Try.ntmps10
  go_wp2
  go_ret
  exact ⟨rfl, Fx.refl _ _⟩
theorem nilNames (w : World) : Calls Try.prog 12 #[.pointer none] w fun e w' => e = .returned (.slice none 0 0) ∧ Fx No w w' := by
  go_enter Try.func12, Try.ntmps12
  go_wp2
  go_ret
  exact ⟨rfl, Fx.refl _ _⟩
theorem nilRising (w : World) : Calls Try.prog 18 #[.pointer none] w fun e w' => e = .returned (.slice none 0 0) ∧ Fx No w w' := by
  go_enter Try.func18, Try.ntmps18
  go_wp2
  go_ret
  exact ⟨rfl, Fx.refl _ _⟩
theorem nilLen (w : World) : Calls Try.prog 11 #[.pointer none] w fun e w' => e = .returned (.int .i64 0) ∧ Fx No w w' := by
  go_enter Try.func11, Try.ntmps11
  go_wp2
  go_ret
  exact ⟨rfl, Fx.refl _ _⟩
theorem nilCopy (w : World) : Calls Try.prog 15 #[.pointer none] w fun e w' => e = .returned (.pointer none) ∧ Fx No w w' := by
  go_enter Try.func15, Try.ntmps15
  go_wp2
  go_ret
  exact ⟨rfl, Fx.refl _ _⟩
theorem nilPFind (w : World) (x y : Int) : Calls Try.prog 29 #[.pointer none, .agg #[.int .u64 x, .int .u64 y]] w fun e w' => e = .returned (.tuple #[.int .i64 0, .bool false]) ∧ Fx No w w' := by
  go_enter Try.func29, Try.ntmps29
  go_wp2
  go_ret2
  exact ⟨rfl, (Fx.refl No w).alloc _⟩
theorem nilPName (w : World) (n : Int) : Calls Try.prog 30 #[.pointer none, .int .i64 n] w fun e w' => e = .returned (.tuple #[.agg #[.int .u64 0, .int .u64 0], .int .i64 1]) ∧ Fx No w w' := by
  go_enter Try.func30, Try.ntmps30
  go_wp2
  (try simp only [Exit.inBlock, Exit.then])
  refine bodyPost_ret (v := .tuple #[.agg #[.int .u64 0, .int .u64 0], .int .i64 1]) ?_ rfl ⟨rfl, (Fx.refl No w).alloc _⟩
  rw [results_cell_tmp rfl]
  go_simp
theorem nilPAdd (w : World) (a : Option Addr) (l c : Nat) : Calls Try.prog 26 #[.pointer none, .slice a l c] w fun e w' => e = .returned (.int .i64 (-1)) ∧ Fx No w w' := by
  go_enter Try.func26, Try.ntmps26
  go_wp2
  go_ret
  exact ⟨rfl, Fx.refl _ _⟩
theorem nilPRising (w : World) : Calls Try.prog 28 #[.pointer none] w fun e w' => e = .returned (.slice none 0 0) ∧ Fx No w w' := by
  go_enter Try.func28, Try.ntmps28
  go_wp2
  go_ret
  exact ⟨rfl, Fx.refl _ _⟩
theorem nilPLen (w : World) : Calls Try.prog 27 #[.pointer none] w fun e w' => e = .returned (.int .i64 0) ∧ Fx No w w' := by
  go_enter Try.func27, Try.ntmps27
  go_wp2
  go_ret
  exact ⟨rfl, Fx.refl _ _⟩
set_option maxRecDepth 100000 in
set_option maxHeartbeats 4000000 in
theorem none_any (w : World) (x n p q : Int) : Calls Try.prog 6 #[.int .u64 x, .int .i64 n, .agg #[.int .u64 p, .int .u64 q]] w fun e w' => e = .returned (.bool true) ∧ Fx No w w' := by
  have HB0 : Hid (Fx No w (w.alloc (.cells #[.int .u64 p, .int .u64 q] 60))) := Lib.hid ((Fx.refl No w).alloc _)
  have c0 : (w.alloc (.cells #[.int .u64 p, .int .u64 q] 60)).cell? ⟨w.heap.size, 0, none⟩ = some (.int .u64 p) := by go_simp
  have c1 : (w.alloc (.cells #[.int .u64 p, .int .u64 q] 60)).cell? ⟨w.heap.size, 1, none⟩ = some (.int .u64 q) := by go_simp
  have HC0 := Lib.hid c0
  have HC1 := Lib.hid c1
  clear c0 c1
  go_enter Try.func6, Try.ntmps6
  go_wp2_with fail
  refine (nilFind _ x).mono ?_
  rintro e w1 ⟨rfl, hf⟩
  have HF1 : Hid (Fx No w w1) := Lib.hid (HB0.out.trans hf)
  have q0 : w1.cell? ⟨w.heap.size, 0, none⟩ = some (.int .u64 p) := hf.cell' (by first | exact HC0.out | (have := HC0.out; go_simp)) (fun h => h)
  have q1 : w1.cell? ⟨w.heap.size, 1, none⟩ = some (.int .u64 q) := hf.cell' (by first | exact HC1.out | (have := HC1.out; go_simp)) (fun h => h)
  have hlt : w.heap.size < w1.heap.size := World.block_lt_of_cell? _ _ q0
  clear HC0 HC1
  have HC0 := Lib.hid q0
  have HC1 := Lib.hid q1
  have hlt0 := hlt
  clear hlt q0 q1
  clear hf
  go_wp2_with fail
  refine (nilName _ n).mono ?_
  rintro e w2 ⟨rfl, hf⟩
  have HF2 : Hid (Fx No w w2) := Lib.hid (HF1.out.trans hf)
  have q0 : w2.cell? ⟨w.heap.size, 0, none⟩ = some (.int .u64 p) := hf.cell' (by first | exact HC0.out | (have := HC0.out; go_simp)) (fun h => h)
  have q1 : w2.cell? ⟨w.heap.size, 1, none⟩ = some (.int .u64 q) := hf.cell' (by first | exact HC1.out | (have := HC1.out; go_simp)) (fun h => h)
  have hlt : w.heap.size < w2.heap.size := World.block_lt_of_cell? _ _ q0
  clear HC0 HC1 hlt0
  have HC0 := Lib.hid q0
  have HC1 := Lib.hid q1
  have hlt0 := hlt
  clear hlt
  clear hf
  go_wp2_with fail
  refine (nilPFind _ p q).mono ?_
  rintro e w3 ⟨rfl, hf⟩
  have HF3 : Hid (Fx No w w3) := Lib.hid (HF2.out.trans hf)
  have q0 : w3.cell? ⟨w.heap.size, 0, none⟩ = some (.int .u64 p) := hf.cell' (by first | exact HC0.out | (have := HC0.out; go_simp)) (fun h => h)
  have q1 : w3.cell? ⟨w.heap.size, 1, none⟩ = some (.int .u64 q) := hf.cell' (by first | exact HC1.out | (have := HC1.out; go_simp)) (fun h => h)
  have hlt : w.heap.size < w3.heap.size := World.block_lt_of_cell? _ _ q0
  clear HC0 HC1 hlt0
  have HC0 := Lib.hid q0
  have HC1 := Lib.hid q1
  have hlt0 := hlt
  clear hlt q0 q1
  clear hf
  go_wp2_with fail
  refine (nilPName _ n).mono ?_
  rintro e w4 ⟨rfl, hf⟩
  have HF4 : Hid (Fx No w w4) := Lib.hid (HF3.out.trans hf)
  have q0 : w4.cell? ⟨w.heap.size, 0, none⟩ = some (.int .u64 p) := hf.cell' (by first | exact HC0.out | (have := HC0.out; go_simp)) (fun h => h)
  have q1 : w4.cell? ⟨w.heap.size, 1, none⟩ = some (.int .u64 q) := hf.cell' (by first | exact HC1.out | (have := HC1.out; go_simp)) (fun h => h)
  have hlt : w.heap.size < w4.heap.size := World.block_lt_of_cell? _ _ q0
  clear HC0 HC1 hlt0
  have HC0 := Lib.hid q0
  have HC1 := Lib.hid q1
  have hlt0 := hlt
  clear hlt q0 q1
  clear hf
  go_wp2_with fail
  refine (nilAdd _ _ _ _).mono ?_
  rintro e w5 ⟨rfl, hf⟩
  have HF5 : Hid (Fx No w w5) := Lib.hid (((HF4.out.alloc (.cells #[.int .u64 0, .int .u64 0] 60)).alloc (.cells #[.int .u64 x] 23)).trans hf)
  have q0 : w5.cell? ⟨w.heap.size, 0, none⟩ = some (.int .u64 p) := hf.cell' (by first | exact HC0.out | (have := HC0.out; go_simp)) (fun h => h)
  have q1 : w5.cell? ⟨w.heap.size, 1, none⟩ = some (.int .u64 q) := hf.cell' (by first | exact HC1.out | (have := HC1.out; go_simp)) (fun h => h)
  have hlt : w.heap.size < w5.heap.size := World.block_lt_of_cell? _ _ q0
  clear HC0 HC1 hlt0
  have HC0 := Lib.hid q0
  have HC1 := Lib.hid q1
  have hlt0 := hlt
  clear hlt q0 q1
  clear hf
  go_wp2_with fail
  refine (nilNames _).mono ?_
  rintro e w6 ⟨rfl, hf⟩
  have HF6 : Hid (Fx No w w6) := Lib.hid (HF5.out.trans hf)
  have q0 : w6.cell? ⟨w.heap.size, 0, none⟩ = some (.int .u64 p) := hf.cell' (by first | exact HC0.out | (have := HC0.out; go_simp)) (fun h => h)
  have q1 : w6.cell? ⟨w.heap.size, 1, none⟩ = some (.int .u64 q) := hf.cell' (by first | exact HC1.out | (have := HC1.out; go_simp)) (fun h => h)
  have hlt : w.heap.size < w6.heap.size := World.block_lt_of_cell? _ _ q0
  clear HC0 HC1 hlt0
  have HC0 := Lib.hid q0
  have HC1 := Lib.hid q1
  have hlt0 := hlt
  clear hlt q0 q1
  clear hf
  go_wp2_with fail
  refine (nilRising _).mono ?_
  rintro e w7 ⟨rfl, hf⟩
  have HF7 : Hid (Fx No w w7) := Lib.hid (HF6.out.trans hf)
  have q0 : w7.cell? ⟨w.heap.size, 0, none⟩ = some (.int .u64 p) := hf.cell' (by first | exact HC0.out | (have := HC0.out; go_simp)) (fun h => h)
  have q1 : w7.cell? ⟨w.heap.size, 1, none⟩ = some (.int .u64 q) := hf.cell' (by first | exact HC1.out | (have := HC1.out; go_simp)) (fun h => h)
  have hlt : w.heap.size < w7.heap.size := World.block_lt_of_cell? _ _ q0
  clear HC0 HC1 hlt0
  have HC0 := Lib.hid q0
  have HC1 := Lib.hid q1
  have hlt0 := hlt
  clear hlt q0 q1
  clear hf
  go_wp2_with fail
  refine (nilLen _).mono ?_
  rintro e w8 ⟨rfl, hf⟩
  have HF8 : Hid (Fx No w w8) := Lib.hid (HF7.out.trans hf)
  have q0 : w8.cell? ⟨w.heap.size, 0, none⟩ = some (.int .u64 p) := hf.cell' (by first | exact HC0.out | (have := HC0.out; go_simp)) (fun h => h)
  have q1 : w8.cell? ⟨w.heap.size, 1, none⟩ = some (.int .u64 q) := hf.cell' (by first | exact HC1.out | (have := HC1.out; go_simp)) (fun h => h)
  have hlt : w.heap.size < w8.heap.size := World.block_lt_of_cell? _ _ q0
  clear HC0 HC1 hlt0
  have HC0 := Lib.hid q0
  have HC1 := Lib.hid q1
  have hlt0 := hlt
  clear hlt q0 q1
  clear hf
  go_wp2_with fail
  refine (nilCopy _).mono ?_
  rintro e w9 ⟨rfl, hf⟩
  have HF9 : Hid (Fx No w w9) := Lib.hid (HF8.out.trans hf)
  have q0 : w9.cell? ⟨w.heap.size, 0, none⟩ = some (.int .u64 p) := hf.cell' (by first | exact HC0.out | (have := HC0.out; go_simp)) (fun h => h)
  have q1 : w9.cell? ⟨w.heap.size, 1, none⟩ = some (.int .u64 q) := hf.cell' (by first | exact HC1.out | (have := HC1.out; go_simp)) (fun h => h)
  have hlt : w.heap.size < w9.heap.size := World.block_lt_of_cell? _ _ q0
  clear HC0 HC1 hlt0
  have HC0 := Lib.hid q0
  have HC1 := Lib.hid q1
  have hlt0 := hlt
  clear hlt
  clear hf
  go_wp2_with fail
  refine (nilPAdd _ _ _ _).mono ?_
  rintro e w10 ⟨rfl, hf⟩
  have HF10 : Hid (Fx No w w10) := Lib.hid ((HF9.out.alloc (.cells #[.int .u64 p, .int .u64 q] 60)).trans hf)
  clear hf
  go_wp2_with fail
  refine (nilPRising _).mono ?_
  rintro e w11 ⟨rfl, hf⟩
  have HF11 : Hid (Fx No w w11) := Lib.hid (HF10.out.trans hf)
  clear hf
  go_wp2_with fail
  refine (nilPLen _).mono ?_
  rintro e w12 ⟨rfl, hf⟩
  have HF12 : Hid (Fx No w w12) := Lib.hid (HF11.out.trans hf)
  clear hf
  go_wp2_with fail
  refine (works_any _).mono ?_
  rintro e w13 ⟨rfl, hf⟩
  have HF13 : Hid (Fx No w w13) := Lib.hid (HF12.out.trans hf)
  clear hf
  go_wp2
  go_ret
  exact ⟨rfl, HF13.out⟩
theorem none_said {w : World} (x : Int) (hx : (Lit.int .u64 x).wf = true) (n : Int) (p : Int × Int) (hp : kP.ok p) : Calls Try.prog 6 #[.int .u64 x, .int .i64 n, .agg #[.int .u64 p.1, .int .u64 p.2]] w fun e w' => e = .returned (.bool true) ∧ Fx No w w' := none_any w x n p.1 p.2
#print axioms none_any
end Go.Proofs.Ytpegloapdkfgiaa
