/- Closed facts on the types and functions at hand. By program. -/
import Derived.Test.YthiogecmahdmcaaGreatDoorRqBase
import Derived.Test.YthiogecmahdmcaaGreatDoorRqTy
set_option maxRecDepth 10000
namespace Go.Proofs.YthiogecmahdmcaaGreatDoor.Rq
open Go Go.Abs
theorem ag2 : isAggT Tryz.prog 2 = some false := by kernel_rfl
theorem ag3 : isAggT Tryz.prog 3 = some false := by kernel_rfl
theorem ag4 : isAggT Tryz.prog 4 = some false := by kernel_rfl
theorem ag9 : isAggT Tryz.prog 9 = some false := by kernel_rfl
theorem ag22 : isAggT Tryz.prog 22 = some false := by kernel_rfl
theorem ag23 : isAggT Tryz.prog 23 = some false := by kernel_rfl
theorem ag24 : isAggT Tryz.prog 24 = some false := by kernel_rfl
theorem ag25 : isAggT Tryz.prog 25 = some false := by kernel_rfl
theorem ag26 : isAggT Tryz.prog 26 = some false := by kernel_rfl
theorem ag27 : isAggT Tryz.prog 27 = some false := by kernel_rfl
theorem ag28 : isAggT Tryz.prog 28 = some false := by kernel_rfl
theorem ag29 : isAggT Tryz.prog 29 = some false := by kernel_rfl
theorem ag31 : isAggT Tryz.prog 31 = some true := by kernel_rfl
theorem ag37 : isAggT Tryz.prog 37 = some true := by kernel_rfl
theorem ag38 : isAggT Tryz.prog 38 = some false := by kernel_rfl
theorem ag40 : isAggT Tryz.prog 40 = some true := by kernel_rfl
theorem ag41 : isAggT Tryz.prog 41 = some false := by kernel_rfl
theorem ag42 : isAggT Tryz.prog 42 = some false := by kernel_rfl
theorem ag44 : isAggT Tryz.prog 44 = some true := by kernel_rfl
theorem ag45 : isAggT Tryz.prog 45 = some false := by kernel_rfl
theorem ag46 : isAggT Tryz.prog 46 = some false := by kernel_rfl
theorem ag48 : isAggT Tryz.prog 48 = some true := by kernel_rfl
theorem ag54 : isAggT Tryz.prog 54 = some true := by kernel_rfl
theorem ag61 : isAggT Tryz.prog 61 = some true := by kernel_rfl
theorem ag66 : isAggT Tryz.prog 66 = some true := by kernel_rfl
theorem ag70 : isAggT Tryz.prog 70 = some true := by kernel_rfl
theorem ag100 : isAggT Tryz.prog 100 = some true := by kernel_rfl
theorem by48 : bytesT Tryz.prog 48 = some 176 := by kernel_rfl
theorem ff4 : (cfgK.fns 4).isSome = true := by kernel_rfl
theorem tt4 : cfgK.thr 4 = false := by rw [thr_of]; kernel_rfl
theorem mz4 : (cfgK.mnz 4).isSome = false := by kernel_rfl
theorem ff5 : (cfgK.fns 5).isSome = true := by kernel_rfl
theorem tt5 : cfgK.thr 5 = false := by rw [thr_of]; kernel_rfl
theorem mz5 : (cfgK.mnz 5).isSome = false := by kernel_rfl
theorem ff6 : (cfgK.fns 6).isSome = true := by kernel_rfl
theorem tt6 : cfgK.thr 6 = false := by rw [thr_of]; kernel_rfl
theorem mz6 : (cfgK.mnz 6).isSome = false := by kernel_rfl
theorem ff7 : (cfgK.fns 7).isSome = true := by kernel_rfl
theorem tt7 : cfgK.thr 7 = false := by rw [thr_of]; kernel_rfl
theorem mz7 : (cfgK.mnz 7).isSome = false := by kernel_rfl
theorem ff8 : (cfgK.fns 8).isSome = true := by kernel_rfl
theorem tt8 : cfgK.thr 8 = false := by rw [thr_of]; kernel_rfl
theorem mz8 : (cfgK.mnz 8).isSome = false := by kernel_rfl
theorem ff9 : (cfgK.fns 9).isSome = true := by kernel_rfl
theorem tt9 : cfgK.thr 9 = false := by rw [thr_of]; kernel_rfl
theorem mz9 : (cfgK.mnz 9).isSome = false := by kernel_rfl
theorem ff15 : (cfgK.fns 15).isSome = true := by kernel_rfl
theorem tt15 : cfgK.thr 15 = false := by rw [thr_of]; kernel_rfl
theorem mz15 : (cfgK.mnz 15).isSome = false := by kernel_rfl
theorem ff16 : (cfgK.fns 16).isSome = true := by kernel_rfl
theorem tt16 : cfgK.thr 16 = false := by rw [thr_of]; kernel_rfl
theorem mz16 : (cfgK.mnz 16).isSome = false := by kernel_rfl
theorem ff17 : (cfgK.fns 17).isSome = true := by kernel_rfl
theorem tt17 : cfgK.thr 17 = false := by rw [thr_of]; kernel_rfl
theorem mz17 : (cfgK.mnz 17).isSome = false := by kernel_rfl
theorem ff18 : (cfgK.fns 18).isSome = true := by kernel_rfl
theorem tt18 : cfgK.thr 18 = false := by rw [thr_of]; kernel_rfl
theorem mz18 : (cfgK.mnz 18).isSome = false := by kernel_rfl
theorem ff19 : (cfgK.fns 19).isSome = true := by kernel_rfl
theorem tt19 : cfgK.thr 19 = false := by rw [thr_of]; kernel_rfl
theorem mz19 : (cfgK.mnz 19).isSome = false := by kernel_rfl
theorem ff20 : (cfgK.fns 20).isSome = true := by kernel_rfl
theorem tt20 : cfgK.thr 20 = false := by rw [thr_of]; kernel_rfl
theorem mz20 : (cfgK.mnz 20).isSome = false := by kernel_rfl
theorem ff21 : (cfgK.fns 21).isSome = true := by kernel_rfl
theorem tt21 : cfgK.thr 21 = false := by rw [thr_of]; kernel_rfl
theorem mz21 : (cfgK.mnz 21).isSome = false := by kernel_rfl
theorem ff22 : (cfgK.fns 22).isSome = true := by kernel_rfl
theorem tt22 : cfgK.thr 22 = false := by rw [thr_of]; kernel_rfl
theorem mz22 : (cfgK.mnz 22).isSome = false := by kernel_rfl
theorem ff23 : (cfgK.fns 23).isSome = true := by kernel_rfl
theorem tt23 : cfgK.thr 23 = false := by rw [thr_of]; kernel_rfl
theorem mz23 : (cfgK.mnz 23).isSome = false := by kernel_rfl
theorem ff24 : (cfgK.fns 24).isSome = true := by kernel_rfl
theorem tt24 : cfgK.thr 24 = false := by rw [thr_of]; kernel_rfl
theorem mz24 : (cfgK.mnz 24).isSome = false := by kernel_rfl
theorem ff25 : (cfgK.fns 25).isSome = true := by kernel_rfl
theorem tt25 : cfgK.thr 25 = false := by rw [thr_of]; kernel_rfl
theorem mz25 : (cfgK.mnz 25).isSome = false := by kernel_rfl
theorem ff26 : (cfgK.fns 26).isSome = true := by kernel_rfl
theorem tt26 : cfgK.thr 26 = false := by rw [thr_of]; kernel_rfl
theorem mz26 : (cfgK.mnz 26).isSome = false := by kernel_rfl
theorem ff27 : (cfgK.fns 27).isSome = true := by kernel_rfl
theorem tt27 : cfgK.thr 27 = false := by rw [thr_of]; kernel_rfl
theorem mz27 : (cfgK.mnz 27).isSome = false := by kernel_rfl
theorem ff28 : (cfgK.fns 28).isSome = true := by kernel_rfl
theorem tt28 : cfgK.thr 28 = false := by rw [thr_of]; kernel_rfl
theorem mz28 : (cfgK.mnz 28).isSome = false := by kernel_rfl
theorem ff39 : (cfgK.fns 39).isSome = true := by kernel_rfl
theorem tt39 : cfgK.thr 39 = false := by rw [thr_of]; kernel_rfl
theorem mz39 : (cfgK.mnz 39).isSome = false := by kernel_rfl
theorem ff40 : (cfgK.fns 40).isSome = true := by kernel_rfl
theorem tt40 : cfgK.thr 40 = false := by rw [thr_of]; kernel_rfl
theorem mz40 : (cfgK.mnz 40).isSome = false := by kernel_rfl
theorem ff41 : (cfgK.fns 41).isSome = true := by kernel_rfl
theorem tt41 : cfgK.thr 41 = false := by rw [thr_of]; kernel_rfl
theorem mz41 : (cfgK.mnz 41).isSome = false := by kernel_rfl
theorem ff42 : (cfgK.fns 42).isSome = true := by kernel_rfl
theorem tt42 : cfgK.thr 42 = false := by rw [thr_of]; kernel_rfl
theorem mz42 : (cfgK.mnz 42).isSome = false := by kernel_rfl
theorem ff43 : (cfgK.fns 43).isSome = true := by kernel_rfl
theorem tt43 : cfgK.thr 43 = false := by rw [thr_of]; kernel_rfl
theorem mz43 : (cfgK.mnz 43).isSome = false := by kernel_rfl
theorem ff44 : (cfgK.fns 44).isSome = true := by kernel_rfl
theorem tt44 : cfgK.thr 44 = false := by rw [thr_of]; kernel_rfl
theorem mz44 : (cfgK.mnz 44).isSome = false := by kernel_rfl
theorem ff45 : (cfgK.fns 45).isSome = true := by kernel_rfl
theorem tt45 : cfgK.thr 45 = false := by rw [thr_of]; kernel_rfl
theorem mz45 : (cfgK.mnz 45).isSome = false := by kernel_rfl
theorem ff64 : (cfgK.fns 64).isSome = true := by kernel_rfl
theorem tt64 : cfgK.thr 64 = false := by rw [thr_of]; kernel_rfl
theorem mz64 : (cfgK.mnz 64).isSome = false := by kernel_rfl
theorem ff65 : (cfgK.fns 65).isSome = true := by kernel_rfl
theorem tt65 : cfgK.thr 65 = false := by rw [thr_of]; kernel_rfl
theorem mz65 : (cfgK.mnz 65).isSome = false := by kernel_rfl
theorem ff66 : (cfgK.fns 66).isSome = true := by kernel_rfl
theorem tt66 : cfgK.thr 66 = false := by rw [thr_of]; kernel_rfl
theorem mz66 : (cfgK.mnz 66).isSome = false := by kernel_rfl
theorem ff67 : (cfgK.fns 67).isSome = true := by kernel_rfl
theorem tt67 : cfgK.thr 67 = false := by rw [thr_of]; kernel_rfl
theorem mz67 : (cfgK.mnz 67).isSome = false := by kernel_rfl
theorem fo31_0 : fieldOf Tryz.prog 31 0 = some ⟨ "Kind", 3, 0, false, "", "", 0⟩ := by kernel_rfl
theorem fo31_1 : fieldOf Tryz.prog 31 1 = some ⟨ "JoinKind", 3, 1, false, "", "", 8⟩ := by kernel_rfl
theorem fo31_2 : fieldOf Tryz.prog 31 2 = some ⟨ "Algo", 3, 2, false, "", "", 16⟩ := by kernel_rfl
theorem fo31_3 : fieldOf Tryz.prog 31 3 = some ⟨ "Table", 9, 3, false, "", "", 24⟩ := by kernel_rfl
theorem fo31_4 : fieldOf Tryz.prog 31 4 = some ⟨ "Columns", 22, 4, false, "", "", 40⟩ := by kernel_rfl
theorem fo31_5 : fieldOf Tryz.prog 31 5 = some ⟨ "Predicates", 23, 5, false, "", "", 64⟩ := by kernel_rfl
theorem fo31_6 : fieldOf Tryz.prog 31 6 = some ⟨ "Exprs", 24, 6, false, "", "", 88⟩ := by kernel_rfl
theorem fo31_7 : fieldOf Tryz.prog 31 7 = some ⟨ "Aggregates", 25, 7, false, "", "", 112⟩ := by kernel_rfl
theorem fo31_8 : fieldOf Tryz.prog 31 8 = some ⟨ "Windows", 26, 8, false, "", "", 136⟩ := by kernel_rfl
theorem fo31_9 : fieldOf Tryz.prog 31 9 = some ⟨ "SortKeys", 27, 9, false, "", "", 160⟩ := by kernel_rfl
theorem fo31_10 : fieldOf Tryz.prog 31 10 = some ⟨ "Limit", 2, 10, false, "", "", 184⟩ := by kernel_rfl
theorem fo31_11 : fieldOf Tryz.prog 31 11 = some ⟨ "Offset", 2, 11, false, "", "", 192⟩ := by kernel_rfl
theorem fo31_12 : fieldOf Tryz.prog 31 12 = some ⟨ "Rows", 28, 12, false, "", "", 200⟩ := by kernel_rfl
theorem fo31_13 : fieldOf Tryz.prog 31 13 = some ⟨ "Types", 22, 13, false, "", "", 224⟩ := by kernel_rfl
theorem fo31_14 : fieldOf Tryz.prog 31 14 = some ⟨ "Inputs", 29, 14, false, "", "", 248⟩ := by kernel_rfl
theorem fo48_0 : fieldOf Tryz.prog 48 0 = some ⟨ "Kind", 3, 0, false, "", "", 0⟩ := by kernel_rfl
theorem fo48_1 : fieldOf Tryz.prog 48 1 = some ⟨ "Op", 3, 1, false, "", "", 8⟩ := by kernel_rfl
theorem fo48_2 : fieldOf Tryz.prog 48 2 = some ⟨ "Value", 40, 2, false, "", "", 16⟩ := by kernel_rfl
theorem fo48_3 : fieldOf Tryz.prog 48 3 = some ⟨ "Table", 9, 5, false, "", "", 48⟩ := by kernel_rfl
theorem fo48_4 : fieldOf Tryz.prog 48 4 = some ⟨ "Name", 9, 6, false, "", "", 64⟩ := by kernel_rfl
theorem fo48_5 : fieldOf Tryz.prog 48 5 = some ⟨ "Distinct", 4, 7, false, "", "", 80⟩ := by kernel_rfl
theorem fo48_6 : fieldOf Tryz.prog 48 6 = some ⟨ "Args", 24, 8, false, "", "", 88⟩ := by kernel_rfl
theorem fo48_7 : fieldOf Tryz.prog 48 7 = some ⟨ "PartitionBy", 24, 9, false, "", "", 112⟩ := by kernel_rfl
theorem fo48_8 : fieldOf Tryz.prog 48 8 = some ⟨ "OrderBy", 46, 10, false, "", "", 136⟩ := by kernel_rfl
theorem fo48_9 : fieldOf Tryz.prog 48 9 = some ⟨ "Slot", 3, 11, false, "", "", 160⟩ := by kernel_rfl
theorem fo48_10 : fieldOf Tryz.prog 48 10 = some ⟨ "Type", 3, 12, false, "", "", 168⟩ := by kernel_rfl
theorem fo66_0 : fieldOf Tryz.prog 66 0 = some ⟨ "Op", 3, 0, false, "", "", 0⟩ := by kernel_rfl
theorem fo66_1 : fieldOf Tryz.prog 66 1 = some ⟨ "Distinct", 4, 1, false, "", "", 8⟩ := by kernel_rfl
theorem fo66_2 : fieldOf Tryz.prog 66 2 = some ⟨ "Args", 24, 2, false, "", "", 16⟩ := by kernel_rfl
theorem fo70_0 : fieldOf Tryz.prog 70 0 = some ⟨ "Op", 3, 0, false, "", "", 0⟩ := by kernel_rfl
theorem fo70_1 : fieldOf Tryz.prog 70 1 = some ⟨ "Args", 24, 1, false, "", "", 8⟩ := by kernel_rfl
theorem fo70_2 : fieldOf Tryz.prog 70 2 = some ⟨ "PartitionBy", 24, 2, false, "", "", 32⟩ := by kernel_rfl
theorem fo70_3 : fieldOf Tryz.prog 70 3 = some ⟨ "OrderBy", 46, 3, false, "", "", 56⟩ := by kernel_rfl
theorem fo100_0 : fieldOf Tryz.prog 100 0 = some ⟨ "Expr", 48, 0, false, "", "", 0⟩ := by kernel_rfl
theorem fo100_1 : fieldOf Tryz.prog 100 1 = some ⟨ "Desc", 4, 13, false, "", "", 176⟩ := by kernel_rfl
theorem sz2 : sizeT Tryz.prog 2 = some 1 := by kernel_rfl
theorem sz3 : sizeT Tryz.prog 3 = some 1 := by kernel_rfl
theorem sz4 : sizeT Tryz.prog 4 = some 1 := by kernel_rfl
theorem sz9 : sizeT Tryz.prog 9 = some 1 := by kernel_rfl
theorem sz22 : sizeT Tryz.prog 22 = some 1 := by kernel_rfl
theorem sz23 : sizeT Tryz.prog 23 = some 1 := by kernel_rfl
theorem sz24 : sizeT Tryz.prog 24 = some 1 := by kernel_rfl
theorem sz25 : sizeT Tryz.prog 25 = some 1 := by kernel_rfl
theorem sz26 : sizeT Tryz.prog 26 = some 1 := by kernel_rfl
theorem sz27 : sizeT Tryz.prog 27 = some 1 := by kernel_rfl
theorem sz28 : sizeT Tryz.prog 28 = some 1 := by kernel_rfl
theorem sz29 : sizeT Tryz.prog 29 = some 1 := by kernel_rfl
theorem sz31 : sizeT Tryz.prog 31 = some 15 := by kernel_rfl
theorem sz37 : sizeT Tryz.prog 37 = some 3 := by kernel_rfl
theorem sz38 : sizeT Tryz.prog 38 = some 1 := by kernel_rfl
theorem sz40 : sizeT Tryz.prog 40 = some 3 := by kernel_rfl
theorem sz41 : sizeT Tryz.prog 41 = some 1 := by kernel_rfl
theorem sz42 : sizeT Tryz.prog 42 = some 1 := by kernel_rfl
theorem sz44 : sizeT Tryz.prog 44 = some 3 := by kernel_rfl
theorem sz45 : sizeT Tryz.prog 45 = some 1 := by kernel_rfl
theorem sz46 : sizeT Tryz.prog 46 = some 1 := by kernel_rfl
theorem sz48 : sizeT Tryz.prog 48 = some 13 := by kernel_rfl
theorem sz54 : sizeT Tryz.prog 54 = some 2 := by kernel_rfl
theorem sz61 : sizeT Tryz.prog 61 = some 5 := by kernel_rfl
theorem sz66 : sizeT Tryz.prog 66 = some 3 := by kernel_rfl
theorem sz70 : sizeT Tryz.prog 70 = some 4 := by kernel_rfl
theorem sz100 : sizeT Tryz.prog 100 = some 14 := by kernel_rfl
theorem zr31 : zeroT Tryz.prog 31 = some [.int .i64 0, .int .i64 0, .int .i64 0, .str ByteArray.empty, .nilsl, .nilsl, .nilsl, .nilsl, .nilsl, .nilsl, .int .i64 0, .int .i64 0, .nilsl, .nilsl, .nilsl] := by kernel_rfl
theorem zr48 : zeroT Tryz.prog 48 = some [.int .i64 0, .int .i64 0, .int .i64 0, .int .i64 0, .str ByteArray.empty, .str ByteArray.empty, .str ByteArray.empty, .bool false, .nilsl, .nilsl, .nilsl, .int .i64 0, .int .i64 0] := by kernel_rfl
theorem zr66 : zeroT Tryz.prog 66 = some [.int .i64 0, .bool false, .nilsl] := by kernel_rfl
theorem zr70 : zeroT Tryz.prog 70 = some [.int .i64 0, .nilsl, .nilsl, .nilsl] := by kernel_rfl
theorem zr100 : zeroT Tryz.prog 100 = some [.int .i64 0, .int .i64 0, .int .i64 0, .int .i64 0, .str ByteArray.empty, .str ByteArray.empty, .str ByteArray.empty, .bool false, .nilsl, .nilsl, .nilsl, .int .i64 0, .int .i64 0, .bool false] := by kernel_rfl
theorem lc2 {x : AV} {r : List AV} : loadL Tryz.prog 2 (x :: r) = some x := Go.Ty.load_one ag2
theorem lc3 {x : AV} {r : List AV} : loadL Tryz.prog 3 (x :: r) = some x := Go.Ty.load_one ag3
theorem lc4 {x : AV} {r : List AV} : loadL Tryz.prog 4 (x :: r) = some x := Go.Ty.load_one ag4
theorem lc9 {x : AV} {r : List AV} : loadL Tryz.prog 9 (x :: r) = some x := Go.Ty.load_one ag9
theorem lc22 {x : AV} {r : List AV} : loadL Tryz.prog 22 (x :: r) = some x := Go.Ty.load_one ag22
theorem lc23 {x : AV} {r : List AV} : loadL Tryz.prog 23 (x :: r) = some x := Go.Ty.load_one ag23
theorem lc24 {x : AV} {r : List AV} : loadL Tryz.prog 24 (x :: r) = some x := Go.Ty.load_one ag24
theorem lc25 {x : AV} {r : List AV} : loadL Tryz.prog 25 (x :: r) = some x := Go.Ty.load_one ag25
theorem lc26 {x : AV} {r : List AV} : loadL Tryz.prog 26 (x :: r) = some x := Go.Ty.load_one ag26
theorem lc27 {x : AV} {r : List AV} : loadL Tryz.prog 27 (x :: r) = some x := Go.Ty.load_one ag27
theorem lc28 {x : AV} {r : List AV} : loadL Tryz.prog 28 (x :: r) = some x := Go.Ty.load_one ag28
theorem lc29 {x : AV} {r : List AV} : loadL Tryz.prog 29 (x :: r) = some x := Go.Ty.load_one ag29
theorem lc31 {x0 x1 x2 x3 x4 x5 x6 x7 x8 x9 x10 x11 x12 x13 x14 : AV} {r : List AV} : loadL Tryz.prog 31 (x0 :: x1 :: x2 :: x3 :: x4 :: x5 :: x6 :: x7 :: x8 :: x9 :: x10 :: x11 :: x12 :: x13 :: x14 :: r) = some (.agg [x0, x1, x2, x3, x4, x5, x6, x7, x8, x9, x10, x11, x12, x13, x14]) := Go.Ty.load_at (c := [x0, x1, x2, x3, x4, x5, x6, x7, x8, x9, x10, x11, x12, x13, x14]) ag31 sz31 rfl
theorem lc37 {x0 x1 x2 : AV} {r : List AV} : loadL Tryz.prog 37 (x0 :: x1 :: x2 :: r) = some (.agg [x0, x1, x2]) := Go.Ty.load_at (c := [x0, x1, x2]) ag37 sz37 rfl
theorem lc38 {x : AV} {r : List AV} : loadL Tryz.prog 38 (x :: r) = some x := Go.Ty.load_one ag38
theorem lc40 {x0 x1 x2 : AV} {r : List AV} : loadL Tryz.prog 40 (x0 :: x1 :: x2 :: r) = some (.agg [x0, x1, x2]) := Go.Ty.load_at (c := [x0, x1, x2]) ag40 sz40 rfl
theorem lc41 {x : AV} {r : List AV} : loadL Tryz.prog 41 (x :: r) = some x := Go.Ty.load_one ag41
theorem lc42 {x : AV} {r : List AV} : loadL Tryz.prog 42 (x :: r) = some x := Go.Ty.load_one ag42
theorem lc44 {x0 x1 x2 : AV} {r : List AV} : loadL Tryz.prog 44 (x0 :: x1 :: x2 :: r) = some (.agg [x0, x1, x2]) := Go.Ty.load_at (c := [x0, x1, x2]) ag44 sz44 rfl
theorem lc45 {x : AV} {r : List AV} : loadL Tryz.prog 45 (x :: r) = some x := Go.Ty.load_one ag45
theorem lc46 {x : AV} {r : List AV} : loadL Tryz.prog 46 (x :: r) = some x := Go.Ty.load_one ag46
theorem lc48 {x0 x1 x2 x3 x4 x5 x6 x7 x8 x9 x10 x11 x12 : AV} {r : List AV} : loadL Tryz.prog 48 (x0 :: x1 :: x2 :: x3 :: x4 :: x5 :: x6 :: x7 :: x8 :: x9 :: x10 :: x11 :: x12 :: r) = some (.agg [x0, x1, x2, x3, x4, x5, x6, x7, x8, x9, x10, x11, x12]) := Go.Ty.load_at (c := [x0, x1, x2, x3, x4, x5, x6, x7, x8, x9, x10, x11, x12]) ag48 sz48 rfl
theorem lc54 {x0 x1 : AV} {r : List AV} : loadL Tryz.prog 54 (x0 :: x1 :: r) = some (.agg [x0, x1]) := Go.Ty.load_at (c := [x0, x1]) ag54 sz54 rfl
theorem lc61 {x0 x1 x2 x3 x4 : AV} {r : List AV} : loadL Tryz.prog 61 (x0 :: x1 :: x2 :: x3 :: x4 :: r) = some (.agg [x0, x1, x2, x3, x4]) := Go.Ty.load_at (c := [x0, x1, x2, x3, x4]) ag61 sz61 rfl
theorem lc66 {x0 x1 x2 : AV} {r : List AV} : loadL Tryz.prog 66 (x0 :: x1 :: x2 :: r) = some (.agg [x0, x1, x2]) := Go.Ty.load_at (c := [x0, x1, x2]) ag66 sz66 rfl
theorem lc70 {x0 x1 x2 x3 : AV} {r : List AV} : loadL Tryz.prog 70 (x0 :: x1 :: x2 :: x3 :: r) = some (.agg [x0, x1, x2, x3]) := Go.Ty.load_at (c := [x0, x1, x2, x3]) ag70 sz70 rfl
theorem lc100 {x0 x1 x2 x3 x4 x5 x6 x7 x8 x9 x10 x11 x12 x13 : AV} {r : List AV} : loadL Tryz.prog 100 (x0 :: x1 :: x2 :: x3 :: x4 :: x5 :: x6 :: x7 :: x8 :: x9 :: x10 :: x11 :: x12 :: x13 :: r) = some (.agg [x0, x1, x2, x3, x4, x5, x6, x7, x8, x9, x10, x11, x12, x13]) := Go.Ty.load_at (c := [x0, x1, x2, x3, x4, x5, x6, x7, x8, x9, x10, x11, x12, x13]) ag100 sz100 rfl
theorem nt3 : Tryz.f3.ntmps = 36 := rfl
theorem nt4 : Tryz.f4.ntmps = 26 := rfl
theorem lv4_3 : cfgK.live 4 3 = [1, 3, 4] := by rw [live_of]; kernel_rfl
theorem nt6 : Tryz.f6.ntmps = 109 := rfl
theorem nt7 : Tryz.f7.ntmps = 91 := rfl
theorem lv7_4 : cfgK.live 7 4 = [2, 3, 5] := by rw [live_of]; kernel_rfl
theorem nt8 : Tryz.f8.ntmps = 24 := rfl
theorem nt9 : Tryz.f9.ntmps = 32 := rfl
theorem nt15 : Tryz.f15.ntmps = 26 := rfl
theorem lv15_4 : cfgK.live 15 4 = [0, 1, 12, 13] := by rw [live_of]; kernel_rfl
theorem nt16 : Tryz.f16.ntmps = 26 := rfl
theorem lv16_4 : cfgK.live 16 4 = [0, 1, 12, 13] := by rw [live_of]; kernel_rfl
theorem nt17 : Tryz.f17.ntmps = 26 := rfl
theorem lv17_4 : cfgK.live 17 4 = [0, 1, 12, 13] := by rw [live_of]; kernel_rfl
theorem nt18 : Tryz.f18.ntmps = 8 := rfl
theorem nt19 : Tryz.f19.ntmps = 32 := rfl
theorem lv19_4 : cfgK.live 19 4 = [1, 2, 15, 16, 17] := by rw [live_of]; kernel_rfl
theorem nt20 : Tryz.f20.ntmps = 24 := rfl
theorem nt21 : Tryz.f21.ntmps = 32 := rfl
theorem lv21_4 : cfgK.live 21 4 = [1, 2, 15, 16, 17] := by rw [live_of]; kernel_rfl
theorem nt22 : Tryz.f22.ntmps = 31 := rfl
theorem nt23 : Tryz.f23.ntmps = 32 := rfl
theorem lv23_4 : cfgK.live 23 4 = [1, 2, 15, 16, 17] := by rw [live_of]; kernel_rfl
theorem nt24 : Tryz.f24.ntmps = 8 := rfl
theorem nt25 : Tryz.f25.ntmps = 32 := rfl
theorem lv25_4 : cfgK.live 25 4 = [1, 2, 15, 16, 17] := by rw [live_of]; kernel_rfl
theorem nt26 : Tryz.f26.ntmps = 190 := rfl
theorem lv26_4 : cfgK.live 26 4 = [2, 3, 5] := by rw [live_of]; kernel_rfl
theorem lv26_9 : cfgK.live 26 9 = [2, 3, 6] := by rw [live_of]; kernel_rfl
theorem lv26_14 : cfgK.live 26 14 = [2, 3, 7] := by rw [live_of]; kernel_rfl
theorem lv26_19 : cfgK.live 26 19 = [2, 3, 8] := by rw [live_of]; kernel_rfl
theorem lv26_24 : cfgK.live 26 24 = [2, 3, 9] := by rw [live_of]; kernel_rfl
theorem nt27 : Tryz.f27.ntmps = 27 := rfl
theorem lv27_4 : cfgK.live 27 4 = [0, 1, 5] := by rw [live_of]; kernel_rfl
theorem nt28 : Tryz.f28.ntmps = 102 := rfl
theorem lv28_4 : cfgK.live 28 4 = [0, 1, 5] := by rw [live_of]; kernel_rfl
theorem lv28_9 : cfgK.live 28 9 = [0, 1, 5, 6] := by rw [live_of]; kernel_rfl
theorem nt39 : Tryz.f39.ntmps = 32 := rfl
theorem lv39_4 : cfgK.live 39 4 = [1, 2, 15, 16, 17] := by rw [live_of]; kernel_rfl
theorem nt40 : Tryz.f40.ntmps = 78 := rfl
theorem nt41 : Tryz.f41.ntmps = 8 := rfl
theorem nt42 : Tryz.f42.ntmps = 26 := rfl
theorem lv42_4 : cfgK.live 42 4 = [0, 1, 12, 13] := by rw [live_of]; kernel_rfl
theorem nt43 : Tryz.f43.ntmps = 48 := rfl
theorem lv43_2 : cfgK.live 43 2 = [0, 1, 5] := by rw [live_of]; kernel_rfl
theorem lv43_7 : cfgK.live 43 7 = [0, 1, 5, 6] := by rw [live_of]; kernel_rfl
theorem nt44 : Tryz.f44.ntmps = 124 := rfl
theorem lv44_4 : cfgK.live 44 4 = [2, 3, 5] := by rw [live_of]; kernel_rfl
theorem nt45 : Tryz.f45.ntmps = 20 := rfl
theorem lv45_3 : cfgK.live 45 3 = [0, 3, 4] := by rw [live_of]; kernel_rfl
theorem nt64 : Tryz.f64.ntmps = 32 := rfl
theorem lv64_4 : cfgK.live 64 4 = [1, 2, 15, 16, 17] := by rw [live_of]; kernel_rfl
theorem nt65 : Tryz.f65.ntmps = 17 := rfl
theorem nt66 : Tryz.f66.ntmps = 17 := rfl
theorem nt67 : Tryz.f67.ntmps = 33 := rfl
theorem lv67_4 : cfgK.live 67 4 = [0, 1, 5] := by rw [live_of]; kernel_rfl
end Go.Proofs.YthiogecmahdmcaaGreatDoor.Rq
