/-
Letters' cells: loads and stores. Written by wip/tools/gen12.py.
envelope.peer and right.
token.Name of the names that the statement uses.
-/
import Derived.Test.YtpgdfpcihamldaaGreatDoorK15
import Derived.Test.YtpgdfpcihamldaaGreatDoorK17
namespace Go.Proofs
open Go Go.Pm
set_option maxRecDepth 100000
noncomputable def lc (kd fr to sq : Int) (key : List UInt8) (pr : Int) (sv md : List UInt8) (cd : Int) (bd : List UInt8) : List AV := [.int .u8 kd, .int .i64 fr, .int .i64 to, .int .u64 sq, .str key, .int .u64 pr, .str sv, .str md, .int .i64 cd, .str bd]
section
variable (kd fr to sq : Int) (key : List UInt8) (pr : Int) (sv md : List UInt8) (cd : Int) (bd : List UInt8) (B0 B1 B2 B3 : ABlk) (H : List ABlk) (i : Int) (s : List UInt8)
theorem ld0_kd : loadA Pt.env.ty (.cells (lc kd fr to sq key pr sv md cd bd) :: H) 5 (.ref 0 0) = some (.int .u8 kd) := by kernel_rfl
theorem st0_kd : storeA Pt.env.ty (.cells (lc kd fr to sq key pr sv md cd bd) :: H) 5 (.int .u8 i) (.ref 0 0) = some (.cells (lc i fr to sq key pr sv md cd bd) :: H) := by kernel_rfl
theorem ld0_fr : loadA Pt.env.ty (.cells (lc kd fr to sq key pr sv md cd bd) :: H) 3 (.ref 0 1) = some (.int .i64 fr) := by kernel_rfl
theorem st0_fr : storeA Pt.env.ty (.cells (lc kd fr to sq key pr sv md cd bd) :: H) 3 (.int .i64 i) (.ref 0 1) = some (.cells (lc kd i to sq key pr sv md cd bd) :: H) := by kernel_rfl
theorem ld0_to : loadA Pt.env.ty (.cells (lc kd fr to sq key pr sv md cd bd) :: H) 3 (.ref 0 2) = some (.int .i64 to) := by kernel_rfl
theorem st0_to : storeA Pt.env.ty (.cells (lc kd fr to sq key pr sv md cd bd) :: H) 3 (.int .i64 i) (.ref 0 2) = some (.cells (lc kd fr i sq key pr sv md cd bd) :: H) := by kernel_rfl
theorem ld0_sq : loadA Pt.env.ty (.cells (lc kd fr to sq key pr sv md cd bd) :: H) 25 (.ref 0 3) = some (.int .u64 sq) := by kernel_rfl
theorem st0_sq : storeA Pt.env.ty (.cells (lc kd fr to sq key pr sv md cd bd) :: H) 25 (.int .u64 i) (.ref 0 3) = some (.cells (lc kd fr to i key pr sv md cd bd) :: H) := by kernel_rfl
theorem ld0_key : loadA Pt.env.ty (.cells (lc kd fr to sq key pr sv md cd bd) :: H) 9 (.ref 0 4) = some (.str key) := by kernel_rfl
theorem st0_key : storeA Pt.env.ty (.cells (lc kd fr to sq key pr sv md cd bd) :: H) 9 (.str s) (.ref 0 4) = some (.cells (lc kd fr to sq s pr sv md cd bd) :: H) := by kernel_rfl
theorem ld0_pr : loadA Pt.env.ty (.cells (lc kd fr to sq key pr sv md cd bd) :: H) 25 (.ref 0 5) = some (.int .u64 pr) := by kernel_rfl
theorem st0_pr : storeA Pt.env.ty (.cells (lc kd fr to sq key pr sv md cd bd) :: H) 25 (.int .u64 i) (.ref 0 5) = some (.cells (lc kd fr to sq key i sv md cd bd) :: H) := by kernel_rfl
theorem ld0_sv : loadA Pt.env.ty (.cells (lc kd fr to sq key pr sv md cd bd) :: H) 9 (.ref 0 6) = some (.str sv) := by kernel_rfl
theorem st0_sv : storeA Pt.env.ty (.cells (lc kd fr to sq key pr sv md cd bd) :: H) 9 (.str s) (.ref 0 6) = some (.cells (lc kd fr to sq key pr s md cd bd) :: H) := by kernel_rfl
theorem ld0_md : loadA Pt.env.ty (.cells (lc kd fr to sq key pr sv md cd bd) :: H) 9 (.ref 0 7) = some (.str md) := by kernel_rfl
theorem st0_md : storeA Pt.env.ty (.cells (lc kd fr to sq key pr sv md cd bd) :: H) 9 (.str s) (.ref 0 7) = some (.cells (lc kd fr to sq key pr sv s cd bd) :: H) := by kernel_rfl
theorem ld0_cd : loadA Pt.env.ty (.cells (lc kd fr to sq key pr sv md cd bd) :: H) 3 (.ref 0 8) = some (.int .i64 cd) := by kernel_rfl
theorem st0_cd : storeA Pt.env.ty (.cells (lc kd fr to sq key pr sv md cd bd) :: H) 3 (.int .i64 i) (.ref 0 8) = some (.cells (lc kd fr to sq key pr sv md i bd) :: H) := by kernel_rfl
theorem ld0_bd : loadA Pt.env.ty (.cells (lc kd fr to sq key pr sv md cd bd) :: H) 9 (.ref 0 9) = some (.str bd) := by kernel_rfl
theorem st0_bd : storeA Pt.env.ty (.cells (lc kd fr to sq key pr sv md cd bd) :: H) 9 (.str s) (.ref 0 9) = some (.cells (lc kd fr to sq key pr sv md cd s) :: H) := by kernel_rfl
theorem ld0_28 : loadA Pt.env.ty (.cells (lc kd fr to sq key pr sv md cd bd) :: H) 28 (.ref 0 0) = some (.agg (lc kd fr to sq key pr sv md cd bd)) := by kernel_rfl
theorem st0_28 (kd' fr' to' sq' : Int) (key' : List UInt8) (pr' : Int) (sv' md' : List UInt8) (cd' : Int) (bd' : List UInt8) : storeA Pt.env.ty (.cells (lc kd fr to sq key pr sv md cd bd) :: H) 28 (.agg (lc kd' fr' to' sq' key' pr' sv' md' cd' bd')) (.ref 0 0) = some (.cells (lc kd' fr' to' sq' key' pr' sv' md' cd' bd') :: H) := by kernel_rfl
theorem ld1_kd : loadA Pt.env.ty (B0 :: .cells (lc kd fr to sq key pr sv md cd bd) :: H) 5 (.ref 1 0) = some (.int .u8 kd) := by kernel_rfl
theorem st1_kd : storeA Pt.env.ty (B0 :: .cells (lc kd fr to sq key pr sv md cd bd) :: H) 5 (.int .u8 i) (.ref 1 0) = some (B0 :: .cells (lc i fr to sq key pr sv md cd bd) :: H) := by kernel_rfl
theorem ld1_fr : loadA Pt.env.ty (B0 :: .cells (lc kd fr to sq key pr sv md cd bd) :: H) 3 (.ref 1 1) = some (.int .i64 fr) := by kernel_rfl
theorem st1_fr : storeA Pt.env.ty (B0 :: .cells (lc kd fr to sq key pr sv md cd bd) :: H) 3 (.int .i64 i) (.ref 1 1) = some (B0 :: .cells (lc kd i to sq key pr sv md cd bd) :: H) := by kernel_rfl
theorem ld1_to : loadA Pt.env.ty (B0 :: .cells (lc kd fr to sq key pr sv md cd bd) :: H) 3 (.ref 1 2) = some (.int .i64 to) := by kernel_rfl
theorem st1_to : storeA Pt.env.ty (B0 :: .cells (lc kd fr to sq key pr sv md cd bd) :: H) 3 (.int .i64 i) (.ref 1 2) = some (B0 :: .cells (lc kd fr i sq key pr sv md cd bd) :: H) := by kernel_rfl
theorem ld1_sq : loadA Pt.env.ty (B0 :: .cells (lc kd fr to sq key pr sv md cd bd) :: H) 25 (.ref 1 3) = some (.int .u64 sq) := by kernel_rfl
theorem st1_sq : storeA Pt.env.ty (B0 :: .cells (lc kd fr to sq key pr sv md cd bd) :: H) 25 (.int .u64 i) (.ref 1 3) = some (B0 :: .cells (lc kd fr to i key pr sv md cd bd) :: H) := by kernel_rfl
theorem ld1_key : loadA Pt.env.ty (B0 :: .cells (lc kd fr to sq key pr sv md cd bd) :: H) 9 (.ref 1 4) = some (.str key) := by kernel_rfl
theorem st1_key : storeA Pt.env.ty (B0 :: .cells (lc kd fr to sq key pr sv md cd bd) :: H) 9 (.str s) (.ref 1 4) = some (B0 :: .cells (lc kd fr to sq s pr sv md cd bd) :: H) := by kernel_rfl
theorem ld1_pr : loadA Pt.env.ty (B0 :: .cells (lc kd fr to sq key pr sv md cd bd) :: H) 25 (.ref 1 5) = some (.int .u64 pr) := by kernel_rfl
theorem st1_pr : storeA Pt.env.ty (B0 :: .cells (lc kd fr to sq key pr sv md cd bd) :: H) 25 (.int .u64 i) (.ref 1 5) = some (B0 :: .cells (lc kd fr to sq key i sv md cd bd) :: H) := by kernel_rfl
theorem ld1_sv : loadA Pt.env.ty (B0 :: .cells (lc kd fr to sq key pr sv md cd bd) :: H) 9 (.ref 1 6) = some (.str sv) := by kernel_rfl
theorem st1_sv : storeA Pt.env.ty (B0 :: .cells (lc kd fr to sq key pr sv md cd bd) :: H) 9 (.str s) (.ref 1 6) = some (B0 :: .cells (lc kd fr to sq key pr s md cd bd) :: H) := by kernel_rfl
theorem ld1_md : loadA Pt.env.ty (B0 :: .cells (lc kd fr to sq key pr sv md cd bd) :: H) 9 (.ref 1 7) = some (.str md) := by kernel_rfl
theorem st1_md : storeA Pt.env.ty (B0 :: .cells (lc kd fr to sq key pr sv md cd bd) :: H) 9 (.str s) (.ref 1 7) = some (B0 :: .cells (lc kd fr to sq key pr sv s cd bd) :: H) := by kernel_rfl
theorem ld1_cd : loadA Pt.env.ty (B0 :: .cells (lc kd fr to sq key pr sv md cd bd) :: H) 3 (.ref 1 8) = some (.int .i64 cd) := by kernel_rfl
theorem st1_cd : storeA Pt.env.ty (B0 :: .cells (lc kd fr to sq key pr sv md cd bd) :: H) 3 (.int .i64 i) (.ref 1 8) = some (B0 :: .cells (lc kd fr to sq key pr sv md i bd) :: H) := by kernel_rfl
theorem ld1_bd : loadA Pt.env.ty (B0 :: .cells (lc kd fr to sq key pr sv md cd bd) :: H) 9 (.ref 1 9) = some (.str bd) := by kernel_rfl
theorem st1_bd : storeA Pt.env.ty (B0 :: .cells (lc kd fr to sq key pr sv md cd bd) :: H) 9 (.str s) (.ref 1 9) = some (B0 :: .cells (lc kd fr to sq key pr sv md cd s) :: H) := by kernel_rfl
theorem ld1_28 : loadA Pt.env.ty (B0 :: .cells (lc kd fr to sq key pr sv md cd bd) :: H) 28 (.ref 1 0) = some (.agg (lc kd fr to sq key pr sv md cd bd)) := by kernel_rfl
theorem st1_28 (kd' fr' to' sq' : Int) (key' : List UInt8) (pr' : Int) (sv' md' : List UInt8) (cd' : Int) (bd' : List UInt8) : storeA Pt.env.ty (B0 :: .cells (lc kd fr to sq key pr sv md cd bd) :: H) 28 (.agg (lc kd' fr' to' sq' key' pr' sv' md' cd' bd')) (.ref 1 0) = some (B0 :: .cells (lc kd' fr' to' sq' key' pr' sv' md' cd' bd') :: H) := by kernel_rfl
theorem ld2_kd : loadA Pt.env.ty (B0 :: B1 :: .cells (lc kd fr to sq key pr sv md cd bd) :: H) 5 (.ref 2 0) = some (.int .u8 kd) := by kernel_rfl
theorem st2_kd : storeA Pt.env.ty (B0 :: B1 :: .cells (lc kd fr to sq key pr sv md cd bd) :: H) 5 (.int .u8 i) (.ref 2 0) = some (B0 :: B1 :: .cells (lc i fr to sq key pr sv md cd bd) :: H) := by kernel_rfl
theorem ld2_fr : loadA Pt.env.ty (B0 :: B1 :: .cells (lc kd fr to sq key pr sv md cd bd) :: H) 3 (.ref 2 1) = some (.int .i64 fr) := by kernel_rfl
theorem st2_fr : storeA Pt.env.ty (B0 :: B1 :: .cells (lc kd fr to sq key pr sv md cd bd) :: H) 3 (.int .i64 i) (.ref 2 1) = some (B0 :: B1 :: .cells (lc kd i to sq key pr sv md cd bd) :: H) := by kernel_rfl
theorem ld2_to : loadA Pt.env.ty (B0 :: B1 :: .cells (lc kd fr to sq key pr sv md cd bd) :: H) 3 (.ref 2 2) = some (.int .i64 to) := by kernel_rfl
theorem st2_to : storeA Pt.env.ty (B0 :: B1 :: .cells (lc kd fr to sq key pr sv md cd bd) :: H) 3 (.int .i64 i) (.ref 2 2) = some (B0 :: B1 :: .cells (lc kd fr i sq key pr sv md cd bd) :: H) := by kernel_rfl
theorem ld2_sq : loadA Pt.env.ty (B0 :: B1 :: .cells (lc kd fr to sq key pr sv md cd bd) :: H) 25 (.ref 2 3) = some (.int .u64 sq) := by kernel_rfl
theorem st2_sq : storeA Pt.env.ty (B0 :: B1 :: .cells (lc kd fr to sq key pr sv md cd bd) :: H) 25 (.int .u64 i) (.ref 2 3) = some (B0 :: B1 :: .cells (lc kd fr to i key pr sv md cd bd) :: H) := by kernel_rfl
theorem ld2_key : loadA Pt.env.ty (B0 :: B1 :: .cells (lc kd fr to sq key pr sv md cd bd) :: H) 9 (.ref 2 4) = some (.str key) := by kernel_rfl
theorem st2_key : storeA Pt.env.ty (B0 :: B1 :: .cells (lc kd fr to sq key pr sv md cd bd) :: H) 9 (.str s) (.ref 2 4) = some (B0 :: B1 :: .cells (lc kd fr to sq s pr sv md cd bd) :: H) := by kernel_rfl
theorem ld2_pr : loadA Pt.env.ty (B0 :: B1 :: .cells (lc kd fr to sq key pr sv md cd bd) :: H) 25 (.ref 2 5) = some (.int .u64 pr) := by kernel_rfl
theorem st2_pr : storeA Pt.env.ty (B0 :: B1 :: .cells (lc kd fr to sq key pr sv md cd bd) :: H) 25 (.int .u64 i) (.ref 2 5) = some (B0 :: B1 :: .cells (lc kd fr to sq key i sv md cd bd) :: H) := by kernel_rfl
theorem ld2_sv : loadA Pt.env.ty (B0 :: B1 :: .cells (lc kd fr to sq key pr sv md cd bd) :: H) 9 (.ref 2 6) = some (.str sv) := by kernel_rfl
theorem st2_sv : storeA Pt.env.ty (B0 :: B1 :: .cells (lc kd fr to sq key pr sv md cd bd) :: H) 9 (.str s) (.ref 2 6) = some (B0 :: B1 :: .cells (lc kd fr to sq key pr s md cd bd) :: H) := by kernel_rfl
theorem ld2_md : loadA Pt.env.ty (B0 :: B1 :: .cells (lc kd fr to sq key pr sv md cd bd) :: H) 9 (.ref 2 7) = some (.str md) := by kernel_rfl
theorem st2_md : storeA Pt.env.ty (B0 :: B1 :: .cells (lc kd fr to sq key pr sv md cd bd) :: H) 9 (.str s) (.ref 2 7) = some (B0 :: B1 :: .cells (lc kd fr to sq key pr sv s cd bd) :: H) := by kernel_rfl
theorem ld2_cd : loadA Pt.env.ty (B0 :: B1 :: .cells (lc kd fr to sq key pr sv md cd bd) :: H) 3 (.ref 2 8) = some (.int .i64 cd) := by kernel_rfl
theorem st2_cd : storeA Pt.env.ty (B0 :: B1 :: .cells (lc kd fr to sq key pr sv md cd bd) :: H) 3 (.int .i64 i) (.ref 2 8) = some (B0 :: B1 :: .cells (lc kd fr to sq key pr sv md i bd) :: H) := by kernel_rfl
theorem ld2_bd : loadA Pt.env.ty (B0 :: B1 :: .cells (lc kd fr to sq key pr sv md cd bd) :: H) 9 (.ref 2 9) = some (.str bd) := by kernel_rfl
theorem st2_bd : storeA Pt.env.ty (B0 :: B1 :: .cells (lc kd fr to sq key pr sv md cd bd) :: H) 9 (.str s) (.ref 2 9) = some (B0 :: B1 :: .cells (lc kd fr to sq key pr sv md cd s) :: H) := by kernel_rfl
theorem ld2_28 : loadA Pt.env.ty (B0 :: B1 :: .cells (lc kd fr to sq key pr sv md cd bd) :: H) 28 (.ref 2 0) = some (.agg (lc kd fr to sq key pr sv md cd bd)) := by kernel_rfl
theorem st2_28 (kd' fr' to' sq' : Int) (key' : List UInt8) (pr' : Int) (sv' md' : List UInt8) (cd' : Int) (bd' : List UInt8) : storeA Pt.env.ty (B0 :: B1 :: .cells (lc kd fr to sq key pr sv md cd bd) :: H) 28 (.agg (lc kd' fr' to' sq' key' pr' sv' md' cd' bd')) (.ref 2 0) = some (B0 :: B1 :: .cells (lc kd' fr' to' sq' key' pr' sv' md' cd' bd') :: H) := by kernel_rfl
theorem ld3_kd : loadA Pt.env.ty (B0 :: B1 :: B2 :: .cells (lc kd fr to sq key pr sv md cd bd) :: H) 5 (.ref 3 0) = some (.int .u8 kd) := by kernel_rfl
theorem st3_kd : storeA Pt.env.ty (B0 :: B1 :: B2 :: .cells (lc kd fr to sq key pr sv md cd bd) :: H) 5 (.int .u8 i) (.ref 3 0) = some (B0 :: B1 :: B2 :: .cells (lc i fr to sq key pr sv md cd bd) :: H) := by kernel_rfl
theorem ld3_fr : loadA Pt.env.ty (B0 :: B1 :: B2 :: .cells (lc kd fr to sq key pr sv md cd bd) :: H) 3 (.ref 3 1) = some (.int .i64 fr) := by kernel_rfl
theorem st3_fr : storeA Pt.env.ty (B0 :: B1 :: B2 :: .cells (lc kd fr to sq key pr sv md cd bd) :: H) 3 (.int .i64 i) (.ref 3 1) = some (B0 :: B1 :: B2 :: .cells (lc kd i to sq key pr sv md cd bd) :: H) := by kernel_rfl
theorem ld3_to : loadA Pt.env.ty (B0 :: B1 :: B2 :: .cells (lc kd fr to sq key pr sv md cd bd) :: H) 3 (.ref 3 2) = some (.int .i64 to) := by kernel_rfl
theorem st3_to : storeA Pt.env.ty (B0 :: B1 :: B2 :: .cells (lc kd fr to sq key pr sv md cd bd) :: H) 3 (.int .i64 i) (.ref 3 2) = some (B0 :: B1 :: B2 :: .cells (lc kd fr i sq key pr sv md cd bd) :: H) := by kernel_rfl
theorem ld3_sq : loadA Pt.env.ty (B0 :: B1 :: B2 :: .cells (lc kd fr to sq key pr sv md cd bd) :: H) 25 (.ref 3 3) = some (.int .u64 sq) := by kernel_rfl
theorem st3_sq : storeA Pt.env.ty (B0 :: B1 :: B2 :: .cells (lc kd fr to sq key pr sv md cd bd) :: H) 25 (.int .u64 i) (.ref 3 3) = some (B0 :: B1 :: B2 :: .cells (lc kd fr to i key pr sv md cd bd) :: H) := by kernel_rfl
theorem ld3_key : loadA Pt.env.ty (B0 :: B1 :: B2 :: .cells (lc kd fr to sq key pr sv md cd bd) :: H) 9 (.ref 3 4) = some (.str key) := by kernel_rfl
theorem st3_key : storeA Pt.env.ty (B0 :: B1 :: B2 :: .cells (lc kd fr to sq key pr sv md cd bd) :: H) 9 (.str s) (.ref 3 4) = some (B0 :: B1 :: B2 :: .cells (lc kd fr to sq s pr sv md cd bd) :: H) := by kernel_rfl
theorem ld3_pr : loadA Pt.env.ty (B0 :: B1 :: B2 :: .cells (lc kd fr to sq key pr sv md cd bd) :: H) 25 (.ref 3 5) = some (.int .u64 pr) := by kernel_rfl
theorem st3_pr : storeA Pt.env.ty (B0 :: B1 :: B2 :: .cells (lc kd fr to sq key pr sv md cd bd) :: H) 25 (.int .u64 i) (.ref 3 5) = some (B0 :: B1 :: B2 :: .cells (lc kd fr to sq key i sv md cd bd) :: H) := by kernel_rfl
theorem ld3_sv : loadA Pt.env.ty (B0 :: B1 :: B2 :: .cells (lc kd fr to sq key pr sv md cd bd) :: H) 9 (.ref 3 6) = some (.str sv) := by kernel_rfl
theorem st3_sv : storeA Pt.env.ty (B0 :: B1 :: B2 :: .cells (lc kd fr to sq key pr sv md cd bd) :: H) 9 (.str s) (.ref 3 6) = some (B0 :: B1 :: B2 :: .cells (lc kd fr to sq key pr s md cd bd) :: H) := by kernel_rfl
theorem ld3_md : loadA Pt.env.ty (B0 :: B1 :: B2 :: .cells (lc kd fr to sq key pr sv md cd bd) :: H) 9 (.ref 3 7) = some (.str md) := by kernel_rfl
theorem st3_md : storeA Pt.env.ty (B0 :: B1 :: B2 :: .cells (lc kd fr to sq key pr sv md cd bd) :: H) 9 (.str s) (.ref 3 7) = some (B0 :: B1 :: B2 :: .cells (lc kd fr to sq key pr sv s cd bd) :: H) := by kernel_rfl
theorem ld3_cd : loadA Pt.env.ty (B0 :: B1 :: B2 :: .cells (lc kd fr to sq key pr sv md cd bd) :: H) 3 (.ref 3 8) = some (.int .i64 cd) := by kernel_rfl
theorem st3_cd : storeA Pt.env.ty (B0 :: B1 :: B2 :: .cells (lc kd fr to sq key pr sv md cd bd) :: H) 3 (.int .i64 i) (.ref 3 8) = some (B0 :: B1 :: B2 :: .cells (lc kd fr to sq key pr sv md i bd) :: H) := by kernel_rfl
theorem ld3_bd : loadA Pt.env.ty (B0 :: B1 :: B2 :: .cells (lc kd fr to sq key pr sv md cd bd) :: H) 9 (.ref 3 9) = some (.str bd) := by kernel_rfl
theorem st3_bd : storeA Pt.env.ty (B0 :: B1 :: B2 :: .cells (lc kd fr to sq key pr sv md cd bd) :: H) 9 (.str s) (.ref 3 9) = some (B0 :: B1 :: B2 :: .cells (lc kd fr to sq key pr sv md cd s) :: H) := by kernel_rfl
theorem ld3_28 : loadA Pt.env.ty (B0 :: B1 :: B2 :: .cells (lc kd fr to sq key pr sv md cd bd) :: H) 28 (.ref 3 0) = some (.agg (lc kd fr to sq key pr sv md cd bd)) := by kernel_rfl
theorem st3_28 (kd' fr' to' sq' : Int) (key' : List UInt8) (pr' : Int) (sv' md' : List UInt8) (cd' : Int) (bd' : List UInt8) : storeA Pt.env.ty (B0 :: B1 :: B2 :: .cells (lc kd fr to sq key pr sv md cd bd) :: H) 28 (.agg (lc kd' fr' to' sq' key' pr' sv' md' cd' bd')) (.ref 3 0) = some (B0 :: B1 :: B2 :: .cells (lc kd' fr' to' sq' key' pr' sv' md' cd' bd') :: H) := by kernel_rfl
theorem ld4_kd : loadA Pt.env.ty (B0 :: B1 :: B2 :: B3 :: .cells (lc kd fr to sq key pr sv md cd bd) :: H) 5 (.ref 4 0) = some (.int .u8 kd) := by kernel_rfl
theorem st4_kd : storeA Pt.env.ty (B0 :: B1 :: B2 :: B3 :: .cells (lc kd fr to sq key pr sv md cd bd) :: H) 5 (.int .u8 i) (.ref 4 0) = some (B0 :: B1 :: B2 :: B3 :: .cells (lc i fr to sq key pr sv md cd bd) :: H) := by kernel_rfl
theorem ld4_fr : loadA Pt.env.ty (B0 :: B1 :: B2 :: B3 :: .cells (lc kd fr to sq key pr sv md cd bd) :: H) 3 (.ref 4 1) = some (.int .i64 fr) := by kernel_rfl
theorem st4_fr : storeA Pt.env.ty (B0 :: B1 :: B2 :: B3 :: .cells (lc kd fr to sq key pr sv md cd bd) :: H) 3 (.int .i64 i) (.ref 4 1) = some (B0 :: B1 :: B2 :: B3 :: .cells (lc kd i to sq key pr sv md cd bd) :: H) := by kernel_rfl
theorem ld4_to : loadA Pt.env.ty (B0 :: B1 :: B2 :: B3 :: .cells (lc kd fr to sq key pr sv md cd bd) :: H) 3 (.ref 4 2) = some (.int .i64 to) := by kernel_rfl
theorem st4_to : storeA Pt.env.ty (B0 :: B1 :: B2 :: B3 :: .cells (lc kd fr to sq key pr sv md cd bd) :: H) 3 (.int .i64 i) (.ref 4 2) = some (B0 :: B1 :: B2 :: B3 :: .cells (lc kd fr i sq key pr sv md cd bd) :: H) := by kernel_rfl
theorem ld4_sq : loadA Pt.env.ty (B0 :: B1 :: B2 :: B3 :: .cells (lc kd fr to sq key pr sv md cd bd) :: H) 25 (.ref 4 3) = some (.int .u64 sq) := by kernel_rfl
theorem st4_sq : storeA Pt.env.ty (B0 :: B1 :: B2 :: B3 :: .cells (lc kd fr to sq key pr sv md cd bd) :: H) 25 (.int .u64 i) (.ref 4 3) = some (B0 :: B1 :: B2 :: B3 :: .cells (lc kd fr to i key pr sv md cd bd) :: H) := by kernel_rfl
theorem ld4_key : loadA Pt.env.ty (B0 :: B1 :: B2 :: B3 :: .cells (lc kd fr to sq key pr sv md cd bd) :: H) 9 (.ref 4 4) = some (.str key) := by kernel_rfl
theorem st4_key : storeA Pt.env.ty (B0 :: B1 :: B2 :: B3 :: .cells (lc kd fr to sq key pr sv md cd bd) :: H) 9 (.str s) (.ref 4 4) = some (B0 :: B1 :: B2 :: B3 :: .cells (lc kd fr to sq s pr sv md cd bd) :: H) := by kernel_rfl
theorem ld4_pr : loadA Pt.env.ty (B0 :: B1 :: B2 :: B3 :: .cells (lc kd fr to sq key pr sv md cd bd) :: H) 25 (.ref 4 5) = some (.int .u64 pr) := by kernel_rfl
theorem st4_pr : storeA Pt.env.ty (B0 :: B1 :: B2 :: B3 :: .cells (lc kd fr to sq key pr sv md cd bd) :: H) 25 (.int .u64 i) (.ref 4 5) = some (B0 :: B1 :: B2 :: B3 :: .cells (lc kd fr to sq key i sv md cd bd) :: H) := by kernel_rfl
theorem ld4_sv : loadA Pt.env.ty (B0 :: B1 :: B2 :: B3 :: .cells (lc kd fr to sq key pr sv md cd bd) :: H) 9 (.ref 4 6) = some (.str sv) := by kernel_rfl
theorem st4_sv : storeA Pt.env.ty (B0 :: B1 :: B2 :: B3 :: .cells (lc kd fr to sq key pr sv md cd bd) :: H) 9 (.str s) (.ref 4 6) = some (B0 :: B1 :: B2 :: B3 :: .cells (lc kd fr to sq key pr s md cd bd) :: H) := by kernel_rfl
theorem ld4_md : loadA Pt.env.ty (B0 :: B1 :: B2 :: B3 :: .cells (lc kd fr to sq key pr sv md cd bd) :: H) 9 (.ref 4 7) = some (.str md) := by kernel_rfl
theorem st4_md : storeA Pt.env.ty (B0 :: B1 :: B2 :: B3 :: .cells (lc kd fr to sq key pr sv md cd bd) :: H) 9 (.str s) (.ref 4 7) = some (B0 :: B1 :: B2 :: B3 :: .cells (lc kd fr to sq key pr sv s cd bd) :: H) := by kernel_rfl
theorem ld4_cd : loadA Pt.env.ty (B0 :: B1 :: B2 :: B3 :: .cells (lc kd fr to sq key pr sv md cd bd) :: H) 3 (.ref 4 8) = some (.int .i64 cd) := by kernel_rfl
theorem st4_cd : storeA Pt.env.ty (B0 :: B1 :: B2 :: B3 :: .cells (lc kd fr to sq key pr sv md cd bd) :: H) 3 (.int .i64 i) (.ref 4 8) = some (B0 :: B1 :: B2 :: B3 :: .cells (lc kd fr to sq key pr sv md i bd) :: H) := by kernel_rfl
theorem ld4_bd : loadA Pt.env.ty (B0 :: B1 :: B2 :: B3 :: .cells (lc kd fr to sq key pr sv md cd bd) :: H) 9 (.ref 4 9) = some (.str bd) := by kernel_rfl
theorem st4_bd : storeA Pt.env.ty (B0 :: B1 :: B2 :: B3 :: .cells (lc kd fr to sq key pr sv md cd bd) :: H) 9 (.str s) (.ref 4 9) = some (B0 :: B1 :: B2 :: B3 :: .cells (lc kd fr to sq key pr sv md cd s) :: H) := by kernel_rfl
theorem ld4_28 : loadA Pt.env.ty (B0 :: B1 :: B2 :: B3 :: .cells (lc kd fr to sq key pr sv md cd bd) :: H) 28 (.ref 4 0) = some (.agg (lc kd fr to sq key pr sv md cd bd)) := by kernel_rfl
theorem st4_28 (kd' fr' to' sq' : Int) (key' : List UInt8) (pr' : Int) (sv' md' : List UInt8) (cd' : Int) (bd' : List UInt8) : storeA Pt.env.ty (B0 :: B1 :: B2 :: B3 :: .cells (lc kd fr to sq key pr sv md cd bd) :: H) 28 (.agg (lc kd' fr' to' sq' key' pr' sv' md' cd' bd')) (.ref 4 0) = some (B0 :: B1 :: B2 :: B3 :: .cells (lc kd' fr' to' sq' key' pr' sv' md' cd' bd') :: H) := by kernel_rfl
end
theorem fo28_0 : fieldOff Pt.env.ty 28 0 = some 0 := by kernel_rfl
theorem fo28_1 : fieldOff Pt.env.ty 28 1 = some 1 := by kernel_rfl
theorem fo28_2 : fieldOff Pt.env.ty 28 2 = some 2 := by kernel_rfl
theorem fo28_3 : fieldOff Pt.env.ty 28 3 = some 3 := by kernel_rfl
theorem fo28_4 : fieldOff Pt.env.ty 28 4 = some 4 := by kernel_rfl
theorem fo28_5 : fieldOff Pt.env.ty 28 5 = some 5 := by kernel_rfl
theorem fo28_6 : fieldOff Pt.env.ty 28 6 = some 6 := by kernel_rfl
theorem fo28_7 : fieldOff Pt.env.ty 28 7 = some 7 := by kernel_rfl
theorem fo28_8 : fieldOff Pt.env.ty 28 8 = some 8 := by kernel_rfl
theorem fo28_9 : fieldOff Pt.env.ty 28 9 = some 9 := by kernel_rfl
theorem zero28 : zeroT Pt.env.ty 28 = some (.agg (lc 0 0 0 0 [] 0 [] [] 0 [])) := by kernel_rfl
theorem a_ref (r off n : Nat) : addA n (.ref r off) = some (.ref r (off + n)) := nr rfl
theorem cellsA (l : List AV) : AV.cells (.agg l) = l := nr rfl
theorem u_not (b : Bool) : unA .not (.bool b) = some (.bool (!b)) := nr rfl
end Go.Proofs
set_option linter.unusedSimpArgs false
namespace Go.Proofs
open Go Go.Pm Go.Proofs.Sum
set_option maxRecDepth 100000
noncomputable def wantV (v : Option AV) (want : Bool) : Option Bool := match v with
      | some (.bool b) => some (b == want)
      | some (.tuple _) => some false
      | _ => none
noncomputable def wantO (p : Option Oper) (T : Tm) (want : Bool) : Option Bool := match p with
  | none => some false
  | some p => match p.dst with
    | none => some false
    | some d => wantV (T.get d) want
theorem wg (l : List Oper) (T : Tm) (j : Nat) (want : Bool) : wantedG ⟨l⟩ T j want = wantO (nth l j) T want := nr rfl
theorem wo_some (d : Tmp) (op : Op) (ty : TypeId) (pos : String) (after : Array Edge) (g : Option (Nat × Bool)) (T : Tm) (want : Bool) : wantO (some ⟨some d, op, ty, pos, after, g⟩) T want = wantV (ev Pt.env T (.tmp d)) want := nr rfl
theorem wv_bool (b want : Bool) : wantV (some (.bool b)) want = some (b == want) := nr rfl
theorem wv_undef (want : Bool) : wantV (some undefA) want = some false := nr rfl
theorem beq_tt : (true == true) = true := rfl
theorem beq_ff : (false == false) = true := rfl
theorem beq_tf : (true == false) = false := rfl
theorem beq_ft : (false == true) = false := rfl
theorem own138 : Pt.env.owns 138 = false := by kernel_rfl
theorem own127 : Pt.env.owns 127 = false := by kernel_rfl
theorem melt_int (k : IntKind) (i : Int) : AV.melt (.int k i) = .int k i := rfl
theorem melt_str (s : List UInt8) : AV.melt (.str s) = .str s := rfl
theorem f138_run (call : CallT) (lf n : Nat) (hn : n < 4) : ∃ reg, runCode Pt.env call lf (codeOf Tryz.f138) ⟨⟨Pt.env.mask 138, [(0, .int .i64 n)], []⟩, [], 9, []⟩ = some (.ret, ⟨⟨Pt.env.mask 138, [(0, .int .i64 n), (2, .bool true)], reg⟩, [], 9, []⟩) := by
  have h0 : decide ((n : Int) ≥ 0) = true := by simp
  have h4 : decide ((n : Int) < 4) = true := by simp; omega
  have hm : Pt.env.mask 138 = 5 := by kernel_rfl
  rw [hm]
  dsimp only [codeOf, Tryz.f138]
  simp (disch := decide) only [c_seq, c_cond, c_block, c_exit, c_skip, c_ret, c_region, o_cons, o_guard, o_nil, sg_true, sg_false, t_normal, t_exit, t_ret, lv_ret, lv_normal, lv_exit, w_move, w_assign, w_bin, w_conv, w_build, w_call, w_pick, w_alloc, w_box, w_agg, w_load, w_store, w_nil, w_un, w_iface, w_func, w_slice, w_faddr, w_field, w_iaddr, w_index, w_extract, e_loc, e_reg, e_const, e_func, e_glob, g_hit, g_miss, p_hit, p_miss, p_nil, s_done, s_go, s_put_loc, s_put_reg, s_put_none, s_back, okV, okH, ob_some, cond_bool, bc_true, bc_false, v_int, v_bool, v_str, v_nil, oBin, oConv, oBuildSlice, oUn, oLoad, oStore, oFieldAddr, oIndexAddr, oIndex, oSlice, oExtract, oPick, oAlloc, oBox, oNil, oBuild, stepC, s_call, oBuiltin, oLen, oAppend, optV_none, optV_some, parts_nil, parts_cons, vals_nil, vals_cons, wg, wo_some, wv_bool, wv_undef, nth_zero, nth_succ, beq_tt, beq_ff, beq_tf, beq_ft, Bool.not_true, Bool.not_false, b_geq, b_lss, h0, h4]
  exact ⟨_, rfl⟩
theorem f138_ok (k n : Nat) (hn : n < 4) : callN Pt.env (k + 1) 138 [.int .i64 n] [] = some (.ret (.bool true), []) := by
  obtain ⟨reg, hr⟩ := f138_run (callN Pt.env k) k n hn
  exact callN_ret Pt.env _ k 138 _ Tryz.f138 (codeOf Tryz.f138) _ _ (by kernel_rfl) (by kernel_rfl) rfl (by kernel_rfl) hr rfl (by kernel_rfl)
theorem f138_four (k : Nat) : callN Pt.env (k + 1) 138 [.int .i64 4] [] = some (.ret (.bool false), []) := by kernel_rfl
/-! ### right -/
section
variable (call : CallT) (lf : Nat) (fr to : Nat) (sq pr cd : Int) (key sv md bd : List UInt8)
theorem b_seq (T : Ty) (t : TypeId) (c : Bool) (a b : List UInt8) : binA T .eql t c (.str a) (.str b) = some (.bool (a == b)) := by simp [binA, strOp]
theorem b_sne (T : Ty) (t : TypeId) (c : Bool) (a b : List UInt8) : binA T .neq t c (.str a) (.str b) = some (.bool (!(a == b))) := by simp [binA, strOp]
theorem b_sadd (T : Ty) (t : TypeId) (c : Bool) (a b : List UInt8) (h : Nat.ble (a.length + b.length) 4611686018427387904 = true) : binA T .add t c (.str a) (.str b) = some (.str (a ++ b)) := by simp only [binA, strOp, h, bc_true]
theorem m72 : Pt.env.mask 72 = 576460765188325383 := by kernel_rfl
theorem f72_1 (hfr : ∀ H, callAt call 138 [.int .i64 fr] H = some (.ret (.bool true), H)) (hto : ∀ H, callAt call 138 [.int .i64 to] H = some (.ret (.bool true), H))
    (hk1 : 1 ≤ key.length) (hk2 : key.length ≤ 64) (hb : bd.length ≤ 4096) (hs : ∀ H, callAt call 127 [.str sv] H = some (.ret (.bool true), H)) (hm : ∀ H, callAt call 127 [.str md] H = some (.ret (.bool true), H)) :
    ∃ st, runCode Pt.env call lf (codeOf Tryz.f72) ⟨⟨Pt.env.mask 72, [(0, .agg (lc 1 fr to sq key pr sv md 0 bd))], []⟩, [], 80, []⟩ = some (.ret, st) ∧ st.defers = [] ∧ finishA Pt.env Tryz.f72 st st.heap = some (.ret (.bool true), st.heap) := by
  have h1 : decide ((key.length : Int) < 1) = false := by simp; omega
  have h2 : decide ((key.length : Int) > 64) = false := by simp; omega
  have h3 : decide ((bd.length : Int) > 4096) = false := by simp; omega
  rw [m72]
  dsimp only [codeOf, Tryz.f72]
  simp (disch := decide) only [c_seq, c_cond, c_block, c_exit, c_skip, c_ret, c_region, o_cons, o_guard, o_nil, sg_true, sg_false, t_normal, t_exit, t_ret, lv_ret, lv_normal, lv_exit, w_move, w_assign, w_bin, w_conv, w_build, w_call, w_pick, w_alloc, w_box, w_agg, w_load, w_store, w_nil, w_un, w_iface, w_func, w_slice, w_faddr, w_field, w_iaddr, w_index, w_extract, e_loc, e_reg, e_const, e_func, e_glob, g_hit, g_miss, p_hit, p_miss, p_nil, s_done, s_go, s_put_loc, s_put_reg, s_put_none, s_back, okV, okH, ob_some, cond_bool, bc_true, bc_false, v_int, v_bool, v_str, v_nil, oBin, oConv, oBuildSlice, oUn, oLoad, oStore, oFieldAddr, oIndexAddr, oIndex, oSlice, oExtract, oPick, oAlloc, oBox, oNil, oBuild, stepC, s_call, oBuiltin, oLen, oAppend, optV_none, optV_some, parts_nil, parts_cons, vals_nil, vals_cons, wg, wo_some, wv_bool, wv_undef, nth_zero, nth_succ, beq_tt, beq_ff, beq_tf, beq_ft, Bool.not_true, Bool.not_false, ld0_kd, ld0_fr, ld0_to, ld0_sq, ld0_key, ld0_pr, ld0_sv, ld0_md, ld0_cd, ld0_bd, ld0_28, fo28_0, fo28_1, fo28_2, fo28_3, fo28_4, fo28_5, fo28_6, fo28_7, fo28_8, fo28_9, a_ref, cellsA, u_not, Nat.zero_add, own138, own127, List.append_nil, List.nil_append, List.map_cons, List.map_nil, melt_int, melt_str, List.length_nil, hfr, hto, hs, hm, len9, b_lss, b_gtr, b_eql, h1, h2, h3, Int.reduceBEq]
  exact ⟨_, rfl, rfl, by kernel_rfl⟩
theorem zl : decide (((0 : Nat) : Int) > 4096) = false := by decide
theorem f72_3 (hfr : ∀ H, callAt call 138 [.int .i64 fr] H = some (.ret (.bool true), H)) (hto : ∀ H, callAt call 138 [.int .i64 to] H = some (.ret (.bool true), H))
    (hk1 : 1 ≤ key.length) (hk2 : key.length ≤ 64) (hs : ∀ H, callAt call 127 [.str sv] H = some (.ret (.bool true), H)) (hm : ∀ H, callAt call 127 [.str md] H = some (.ret (.bool true), H)) :
    ∃ st, runCode Pt.env call lf (codeOf Tryz.f72) ⟨⟨Pt.env.mask 72, [(0, .agg (lc 3 fr to sq key pr sv md 0 []))], []⟩, [], 80, []⟩ = some (.ret, st) ∧ st.defers = [] ∧ finishA Pt.env Tryz.f72 st st.heap = some (.ret (.bool true), st.heap) := by
  have h1 : decide ((key.length : Int) < 1) = false := by simp; omega
  have h2 : decide ((key.length : Int) > 64) = false := by simp; omega
  rw [m72]
  dsimp only [codeOf, Tryz.f72]
  simp (disch := decide) only [c_seq, c_cond, c_block, c_exit, c_skip, c_ret, c_region, o_cons, o_guard, o_nil, sg_true, sg_false, t_normal, t_exit, t_ret, lv_ret, lv_normal, lv_exit, w_move, w_assign, w_bin, w_conv, w_build, w_call, w_pick, w_alloc, w_box, w_agg, w_load, w_store, w_nil, w_un, w_iface, w_func, w_slice, w_faddr, w_field, w_iaddr, w_index, w_extract, e_loc, e_reg, e_const, e_func, e_glob, g_hit, g_miss, p_hit, p_miss, p_nil, s_done, s_go, s_put_loc, s_put_reg, s_put_none, s_back, okV, okH, ob_some, cond_bool, bc_true, bc_false, v_int, v_bool, v_str, v_nil, oBin, oConv, oBuildSlice, oUn, oLoad, oStore, oFieldAddr, oIndexAddr, oIndex, oSlice, oExtract, oPick, oAlloc, oBox, oNil, oBuild, stepC, s_call, oBuiltin, oLen, oAppend, optV_none, optV_some, parts_nil, parts_cons, vals_nil, vals_cons, wg, wo_some, wv_bool, wv_undef, nth_zero, nth_succ, beq_tt, beq_ff, beq_tf, beq_ft, Bool.not_true, Bool.not_false, ld0_kd, ld0_fr, ld0_to, ld0_sq, ld0_key, ld0_pr, ld0_sv, ld0_md, ld0_cd, ld0_bd, ld0_28, fo28_0, fo28_1, fo28_2, fo28_3, fo28_4, fo28_5, fo28_6, fo28_7, fo28_8, fo28_9, a_ref, cellsA, u_not, Nat.zero_add, own138, own127, List.append_nil, List.nil_append, List.map_cons, List.map_nil, melt_int, melt_str, List.length_nil, hfr, hto, hs, hm, len9, b_lss, b_gtr, b_eql, b_seq, beq_self_eq_true, h1, h2, Int.reduceBEq, zl]
  exact ⟨_, rfl, rfl, by kernel_rfl⟩
theorem f72_2 (hfr : ∀ H, callAt call 138 [.int .i64 fr] H = some (.ret (.bool true), H)) (hto : ∀ H, callAt call 138 [.int .i64 to] H = some (.ret (.bool true), H))
    (hk1 : 1 ≤ key.length) (hk2 : key.length ≤ 64) (hb : bd.length ≤ 4096) (hc0 : 0 ≤ cd) (hc1 : cd ≤ 999) :
    ∃ st, runCode Pt.env call lf (codeOf Tryz.f72) ⟨⟨Pt.env.mask 72, [(0, .agg (lc 2 fr to sq key pr [] [] cd bd))], []⟩, [], 80, []⟩ = some (.ret, st) ∧ st.defers = [] ∧ finishA Pt.env Tryz.f72 st st.heap = some (.ret (.bool true), st.heap) := by
  have h1 : decide ((key.length : Int) < 1) = false := by simp; omega
  have h2 : decide ((key.length : Int) > 64) = false := by simp; omega
  have h3 : decide ((bd.length : Int) > 4096) = false := by simp; omega
  have h4 : decide (cd ≥ 0) = true := by simp; omega
  have h5 : decide (cd ≤ 999) = true := by simp; omega
  rw [m72]
  dsimp only [codeOf, Tryz.f72]
  simp (disch := decide) only [c_seq, c_cond, c_block, c_exit, c_skip, c_ret, c_region, o_cons, o_guard, o_nil, sg_true, sg_false, t_normal, t_exit, t_ret, lv_ret, lv_normal, lv_exit, w_move, w_assign, w_bin, w_conv, w_build, w_call, w_pick, w_alloc, w_box, w_agg, w_load, w_store, w_nil, w_un, w_iface, w_func, w_slice, w_faddr, w_field, w_iaddr, w_index, w_extract, e_loc, e_reg, e_const, e_func, e_glob, g_hit, g_miss, p_hit, p_miss, p_nil, s_done, s_go, s_put_loc, s_put_reg, s_put_none, s_back, okV, okH, ob_some, cond_bool, bc_true, bc_false, v_int, v_bool, v_str, v_nil, oBin, oConv, oBuildSlice, oUn, oLoad, oStore, oFieldAddr, oIndexAddr, oIndex, oSlice, oExtract, oPick, oAlloc, oBox, oNil, oBuild, stepC, s_call, oBuiltin, oLen, oAppend, optV_none, optV_some, parts_nil, parts_cons, vals_nil, vals_cons, wg, wo_some, wv_bool, wv_undef, nth_zero, nth_succ, beq_tt, beq_ff, beq_tf, beq_ft, Bool.not_true, Bool.not_false, ld0_kd, ld0_fr, ld0_to, ld0_sq, ld0_key, ld0_pr, ld0_sv, ld0_md, ld0_cd, ld0_bd, ld0_28, fo28_0, fo28_1, fo28_2, fo28_3, fo28_4, fo28_5, fo28_6, fo28_7, fo28_8, fo28_9, a_ref, cellsA, u_not, Nat.zero_add, own138, own127, List.append_nil, List.nil_append, List.map_cons, List.map_nil, melt_int, melt_str, List.length_nil, hfr, hto, len9, b_lss, b_gtr, b_eql, b_seq, b_geq, b_leq, beq_self_eq_true, h1, h2, h3, h4, h5, Int.reduceBEq]
  exact ⟨_, rfl, rfl, by kernel_rfl⟩
theorem f72_4 (hfr : ∀ H, callAt call 138 [.int .i64 fr] H = some (.ret (.bool true), H)) (hto : ∀ H, callAt call 138 [.int .i64 to] H = some (.ret (.bool true), H))
    (hk1 : 1 ≤ key.length) (hk2 : key.length ≤ 64) (hb : bd.length ≤ 4096) (hc0 : 0 ≤ cd) (hc1 : cd ≤ 999) :
    ∃ st, runCode Pt.env call lf (codeOf Tryz.f72) ⟨⟨Pt.env.mask 72, [(0, .agg (lc 4 fr to sq key pr [] [] cd bd))], []⟩, [], 80, []⟩ = some (.ret, st) ∧ st.defers = [] ∧ finishA Pt.env Tryz.f72 st st.heap = some (.ret (.bool true), st.heap) := by
  have h1 : decide ((key.length : Int) < 1) = false := by simp; omega
  have h2 : decide ((key.length : Int) > 64) = false := by simp; omega
  have h3 : decide ((bd.length : Int) > 4096) = false := by simp; omega
  have h4 : decide (cd ≥ 0) = true := by simp; omega
  have h5 : decide (cd ≤ 999) = true := by simp; omega
  rw [m72]
  dsimp only [codeOf, Tryz.f72]
  simp (disch := decide) only [c_seq, c_cond, c_block, c_exit, c_skip, c_ret, c_region, o_cons, o_guard, o_nil, sg_true, sg_false, t_normal, t_exit, t_ret, lv_ret, lv_normal, lv_exit, w_move, w_assign, w_bin, w_conv, w_build, w_call, w_pick, w_alloc, w_box, w_agg, w_load, w_store, w_nil, w_un, w_iface, w_func, w_slice, w_faddr, w_field, w_iaddr, w_index, w_extract, e_loc, e_reg, e_const, e_func, e_glob, g_hit, g_miss, p_hit, p_miss, p_nil, s_done, s_go, s_put_loc, s_put_reg, s_put_none, s_back, okV, okH, ob_some, cond_bool, bc_true, bc_false, v_int, v_bool, v_str, v_nil, oBin, oConv, oBuildSlice, oUn, oLoad, oStore, oFieldAddr, oIndexAddr, oIndex, oSlice, oExtract, oPick, oAlloc, oBox, oNil, oBuild, stepC, s_call, oBuiltin, oLen, oAppend, optV_none, optV_some, parts_nil, parts_cons, vals_nil, vals_cons, wg, wo_some, wv_bool, wv_undef, nth_zero, nth_succ, beq_tt, beq_ff, beq_tf, beq_ft, Bool.not_true, Bool.not_false, ld0_kd, ld0_fr, ld0_to, ld0_sq, ld0_key, ld0_pr, ld0_sv, ld0_md, ld0_cd, ld0_bd, ld0_28, fo28_0, fo28_1, fo28_2, fo28_3, fo28_4, fo28_5, fo28_6, fo28_7, fo28_8, fo28_9, a_ref, cellsA, u_not, Nat.zero_add, own138, own127, List.append_nil, List.nil_append, List.map_cons, List.map_nil, melt_int, melt_str, List.length_nil, hfr, hto, len9, b_lss, b_gtr, b_eql, b_seq, b_geq, b_leq, beq_self_eq_true, h1, h2, h3, h4, h5, Int.reduceBEq]
  exact ⟨_, rfl, rfl, by kernel_rfl⟩
theorem f72_bad (kd : Int) (hfr : ∀ H, callAt call 138 [.int .i64 fr] H = some (.ret (.bool true), H)) (hto : ∀ H, callAt call 138 [.int .i64 4] H = some (.ret (.bool false), H))
 :
    ∃ st, runCode Pt.env call lf (codeOf Tryz.f72) ⟨⟨Pt.env.mask 72, [(0, .agg (lc kd fr 4 sq key pr sv md cd bd))], []⟩, [], 80, []⟩ = some (.ret, st) ∧ st.defers = [] ∧ finishA Pt.env Tryz.f72 st st.heap = some (.ret (.bool false), st.heap) := by
  rw [m72]
  dsimp only [codeOf, Tryz.f72]
  simp (disch := decide) only [c_seq, c_cond, c_block, c_exit, c_skip, c_ret, c_region, o_cons, o_guard, o_nil, sg_true, sg_false, t_normal, t_exit, t_ret, lv_ret, lv_normal, lv_exit, w_move, w_assign, w_bin, w_conv, w_build, w_call, w_pick, w_alloc, w_box, w_agg, w_load, w_store, w_nil, w_un, w_iface, w_func, w_slice, w_faddr, w_field, w_iaddr, w_index, w_extract, e_loc, e_reg, e_const, e_func, e_glob, g_hit, g_miss, p_hit, p_miss, p_nil, s_done, s_go, s_put_loc, s_put_reg, s_put_none, s_back, okV, okH, ob_some, cond_bool, bc_true, bc_false, v_int, v_bool, v_str, v_nil, oBin, oConv, oBuildSlice, oUn, oLoad, oStore, oFieldAddr, oIndexAddr, oIndex, oSlice, oExtract, oPick, oAlloc, oBox, oNil, oBuild, stepC, s_call, oBuiltin, oLen, oAppend, optV_none, optV_some, parts_nil, parts_cons, vals_nil, vals_cons, wg, wo_some, wv_bool, wv_undef, nth_zero, nth_succ, beq_tt, beq_ff, beq_tf, beq_ft, Bool.not_true, Bool.not_false, ld0_kd, ld0_fr, ld0_to, ld0_sq, ld0_key, ld0_pr, ld0_sv, ld0_md, ld0_cd, ld0_bd, ld0_28, fo28_0, fo28_1, fo28_2, fo28_3, fo28_4, fo28_5, fo28_6, fo28_7, fo28_8, fo28_9, a_ref, cellsA, u_not, Nat.zero_add, own138, own127, List.append_nil, List.nil_append, List.map_cons, List.map_nil, melt_int, melt_str, List.length_nil, hfr, hto]
  exact ⟨_, rfl, rfl, by kernel_rfl⟩
end
end Go.Proofs
set_option linter.unusedSimpArgs false
namespace Go.Proofs
open Go Go.Pm Go.Proofs.Sum
set_option maxRecDepth 100000
noncomputable def isTrue (r : Option (Pm.End × List ABlk)) : Bool := match r with
  | some (.ret (.bool true), _) => true
  | _ => false
theorem isTrue_some {r : Option (Pm.End × List ABlk)} (h : isTrue r = true) : ∃ H, r = some (.ret (.bool true), H) := by
  unfold isTrue at h
  split at h
  · exact ⟨_, rfl⟩
  · cases h
theorem name_S (k : Nat) : isTrue (callN Pt.env (k + 60) 127 [.str [83]] []) = true := by kernel_rfl
theorem name_t (k : Nat) : isTrue (callN Pt.env (k + 60) 127 [.str [116]] []) = true := by kernel_rfl
theorem name_take (k : Nat) : isTrue (callN Pt.env (k + 60) 127 [.str [116, 97, 107, 101, 95, 49]] []) = true := by kernel_rfl
end Go.Proofs
