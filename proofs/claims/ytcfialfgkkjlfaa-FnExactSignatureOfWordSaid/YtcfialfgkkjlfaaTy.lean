/- The types of this seat, by a program of ours: zero values, sizes, element types, fields. -/
import Derived.Test.YtcfialfgkkjlfaaProg
import Derived.Test.YtcfialfgkkjlfaaA6
namespace Go.Proofs.Ytcfialfgkkjlfaa
open Go.Sx
instance : TI Try.prog 1 (.nilFunc) 1 8 where
  eq := by kernel_rfl
instance : Flat Try.prog 1 := ⟨by kernel_rfl⟩
instance : TI Try.prog 2 (.int .i64 0) 1 8 where
  eq := by kernel_rfl
instance : Flat Try.prog 2 := ⟨by kernel_rfl⟩
instance : TI Try.prog 3 (.int .i64 0) 1 8 where
  eq := by kernel_rfl
instance : Flat Try.prog 3 := ⟨by kernel_rfl⟩
instance : TI Try.prog 4 (.bool false) 1 1 where
  eq := by kernel_rfl
instance : Flat Try.prog 4 := ⟨by kernel_rfl⟩
instance : TI Try.prog 5 (.int .u8 0) 1 1 where
  eq := by kernel_rfl
instance : Flat Try.prog 5 := ⟨by kernel_rfl⟩
instance : TI Try.prog 7 (.agg #[(.int .i64 0), (.int .i64 0), (.bool false), (.int .u8 0)]) 4 24 where
  eq := by kernel_rfl
instance : Agg Try.prog 7 := ⟨by kernel_rfl⟩
instance : Fld Try.prog 7 0 0 := ⟨by kernel_rfl⟩
instance : Fld Try.prog 7 1 1 := ⟨by kernel_rfl⟩
instance : Fld Try.prog 7 2 2 := ⟨by kernel_rfl⟩
instance : Fld Try.prog 7 3 3 := ⟨by kernel_rfl⟩
instance : TI Try.prog 9 (.string ⟨#[]⟩) 1 16 where
  eq := by kernel_rfl
instance : Flat Try.prog 9 := ⟨by kernel_rfl⟩
instance : TI Try.prog 12 (.int .u64 0) 1 8 where
  eq := by kernel_rfl
instance : Flat Try.prog 12 := ⟨by kernel_rfl⟩
instance : TI Try.prog 13 (.agg #[(.string ⟨#[]⟩), (.int .u64 0)]) 2 24 where
  eq := by kernel_rfl
instance : Agg Try.prog 13 := ⟨by kernel_rfl⟩
instance : Fld Try.prog 13 0 0 := ⟨by kernel_rfl⟩
instance : Fld Try.prog 13 1 1 := ⟨by kernel_rfl⟩
instance : TI Try.prog 15 (.pointer none) 1 8 where
  eq := by kernel_rfl
instance : Flat Try.prog 15 := ⟨by kernel_rfl⟩
instance : TI Try.prog 16 (.pointer none) 1 8 where
  eq := by kernel_rfl
instance : Flat Try.prog 16 := ⟨by kernel_rfl⟩
instance : TI Try.prog 17 (.pointer none) 1 8 where
  eq := by kernel_rfl
instance : Flat Try.prog 17 := ⟨by kernel_rfl⟩
instance : TI Try.prog 18 (.agg #[(.pointer none)]) 1 8 where
  eq := by kernel_rfl
instance : Agg Try.prog 18 := ⟨by kernel_rfl⟩
instance : Fld Try.prog 18 0 0 := ⟨by kernel_rfl⟩
instance : TI Try.prog 21 (.int .i32 0) 1 4 where
  eq := by kernel_rfl
instance : Flat Try.prog 21 := ⟨by kernel_rfl⟩
instance : TI Try.prog 22 (.slice none 0 0) 1 24 where
  eq := by kernel_rfl
instance : Flat Try.prog 22 := ⟨by kernel_rfl⟩
instance : SlT Try.prog 22 82 := ⟨by kernel_rfl⟩
instance : TI Try.prog 23 (.nilFunc) 1 8 where
  eq := by kernel_rfl
instance : Flat Try.prog 23 := ⟨by kernel_rfl⟩
instance : TI Try.prog 24 (.slice none 0 0) 1 24 where
  eq := by kernel_rfl
instance : Flat Try.prog 24 := ⟨by kernel_rfl⟩
instance : SlT Try.prog 24 84 := ⟨by kernel_rfl⟩
instance : TI Try.prog 26 (.nilFunc) 1 8 where
  eq := by kernel_rfl
instance : Flat Try.prog 26 := ⟨by kernel_rfl⟩
instance : TI Try.prog 27 (.nilFunc) 1 8 where
  eq := by kernel_rfl
instance : Flat Try.prog 27 := ⟨by kernel_rfl⟩
instance : TI Try.prog 28 (.nilFunc) 1 8 where
  eq := by kernel_rfl
instance : Flat Try.prog 28 := ⟨by kernel_rfl⟩
instance : TI Try.prog 29 (.nilFunc) 1 8 where
  eq := by kernel_rfl
instance : Flat Try.prog 29 := ⟨by kernel_rfl⟩
instance : TI Try.prog 30 (.nilFunc) 1 8 where
  eq := by kernel_rfl
instance : Flat Try.prog 30 := ⟨by kernel_rfl⟩
instance : TI Try.prog 31 (.slice none 0 0) 1 24 where
  eq := by kernel_rfl
instance : Flat Try.prog 31 := ⟨by kernel_rfl⟩
instance : SlT Try.prog 31 2 := ⟨by kernel_rfl⟩
instance : TI Try.prog 33 (.nilFunc) 1 8 where
  eq := by kernel_rfl
instance : Flat Try.prog 33 := ⟨by kernel_rfl⟩
instance : TI Try.prog 34 (.nilFunc) 1 8 where
  eq := by kernel_rfl
instance : Flat Try.prog 34 := ⟨by kernel_rfl⟩
instance : TI Try.prog 35 (.nilFunc) 1 8 where
  eq := by kernel_rfl
instance : Flat Try.prog 35 := ⟨by kernel_rfl⟩
instance : TI Try.prog 36 (.nilFunc) 1 8 where
  eq := by kernel_rfl
instance : Flat Try.prog 36 := ⟨by kernel_rfl⟩
instance : TI Try.prog 37 (.slice none 0 0) 1 24 where
  eq := by kernel_rfl
instance : Flat Try.prog 37 := ⟨by kernel_rfl⟩
instance : SlT Try.prog 37 98 := ⟨by kernel_rfl⟩
instance : TI Try.prog 38 (.agg #[(.int .i64 0), (.int .i64 0), (.slice none 0 0)]) 3 40 where
  eq := by kernel_rfl
instance : Agg Try.prog 38 := ⟨by kernel_rfl⟩
instance : Fld Try.prog 38 0 0 := ⟨by kernel_rfl⟩
instance : Fld Try.prog 38 1 1 := ⟨by kernel_rfl⟩
instance : Fld Try.prog 38 2 2 := ⟨by kernel_rfl⟩
instance : TI Try.prog 39 (.agg #[(.int .i64 0), (.int .i64 0), (.slice none 0 0)]) 3 40 where
  eq := by kernel_rfl
instance : Agg Try.prog 39 := ⟨by kernel_rfl⟩
instance : Fld Try.prog 39 0 0 := ⟨by kernel_rfl⟩
instance : Fld Try.prog 39 1 1 := ⟨by kernel_rfl⟩
instance : Fld Try.prog 39 2 2 := ⟨by kernel_rfl⟩
instance : TI Try.prog 41 (.nilFunc) 1 8 where
  eq := by kernel_rfl
instance : Flat Try.prog 41 := ⟨by kernel_rfl⟩
instance : TI Try.prog 42 (.nilFunc) 1 8 where
  eq := by kernel_rfl
instance : Flat Try.prog 42 := ⟨by kernel_rfl⟩
instance : TI Try.prog 43 (.nilFunc) 1 8 where
  eq := by kernel_rfl
instance : Flat Try.prog 43 := ⟨by kernel_rfl⟩
instance : TI Try.prog 44 (.nilFunc) 1 8 where
  eq := by kernel_rfl
instance : Flat Try.prog 44 := ⟨by kernel_rfl⟩
instance : TI Try.prog 45 (.slice none 0 0) 1 24 where
  eq := by kernel_rfl
instance : Flat Try.prog 45 := ⟨by kernel_rfl⟩
instance : SlT Try.prog 45 160 := ⟨by kernel_rfl⟩
instance : TI Try.prog 46 (.agg #[(.int .i64 0), (.int .i64 0), (.slice none 0 0)]) 3 40 where
  eq := by kernel_rfl
instance : Agg Try.prog 46 := ⟨by kernel_rfl⟩
instance : Fld Try.prog 46 0 0 := ⟨by kernel_rfl⟩
instance : Fld Try.prog 46 1 1 := ⟨by kernel_rfl⟩
instance : Fld Try.prog 46 2 2 := ⟨by kernel_rfl⟩
instance : TI Try.prog 47 (.agg #[(.int .i64 0), (.int .i64 0), (.slice none 0 0)]) 3 40 where
  eq := by kernel_rfl
instance : Agg Try.prog 47 := ⟨by kernel_rfl⟩
instance : Fld Try.prog 47 0 0 := ⟨by kernel_rfl⟩
instance : Fld Try.prog 47 1 1 := ⟨by kernel_rfl⟩
instance : Fld Try.prog 47 2 2 := ⟨by kernel_rfl⟩
instance : TI Try.prog 48 (.nilFunc) 1 8 where
  eq := by kernel_rfl
instance : Flat Try.prog 48 := ⟨by kernel_rfl⟩
instance : TI Try.prog 49 (.nilFunc) 1 8 where
  eq := by kernel_rfl
instance : Flat Try.prog 49 := ⟨by kernel_rfl⟩
instance : TI Try.prog 50 (.nilFunc) 1 8 where
  eq := by kernel_rfl
instance : Flat Try.prog 50 := ⟨by kernel_rfl⟩
instance : TI Try.prog 51 (.nilFunc) 1 8 where
  eq := by kernel_rfl
instance : Flat Try.prog 51 := ⟨by kernel_rfl⟩
instance : TI Try.prog 52 (.slice none 0 0) 1 24 where
  eq := by kernel_rfl
instance : Flat Try.prog 52 := ⟨by kernel_rfl⟩
instance : SlT Try.prog 52 5 := ⟨by kernel_rfl⟩
instance : TI Try.prog 53 (.nilFunc) 1 8 where
  eq := by kernel_rfl
instance : Flat Try.prog 53 := ⟨by kernel_rfl⟩
instance : TI Try.prog 54 (.slice none 0 0) 1 24 where
  eq := by kernel_rfl
instance : Flat Try.prog 54 := ⟨by kernel_rfl⟩
instance : SlT Try.prog 54 57 := ⟨by kernel_rfl⟩
instance : TI Try.prog 56 (.nilFunc) 1 8 where
  eq := by kernel_rfl
instance : Flat Try.prog 56 := ⟨by kernel_rfl⟩
instance : TI Try.prog 57 (.slice none 0 0) 1 24 where
  eq := by kernel_rfl
instance : Flat Try.prog 57 := ⟨by kernel_rfl⟩
instance : SlT Try.prog 57 31 := ⟨by kernel_rfl⟩
instance : TI Try.prog 59 (.nilFunc) 1 8 where
  eq := by kernel_rfl
instance : Flat Try.prog 59 := ⟨by kernel_rfl⟩
instance : TI Try.prog 60 (.nilFunc) 1 8 where
  eq := by kernel_rfl
instance : Flat Try.prog 60 := ⟨by kernel_rfl⟩
instance : TI Try.prog 61 (.nilFunc) 1 8 where
  eq := by kernel_rfl
instance : Flat Try.prog 61 := ⟨by kernel_rfl⟩
instance : TI Try.prog 63 (.nilFunc) 1 8 where
  eq := by kernel_rfl
instance : Flat Try.prog 63 := ⟨by kernel_rfl⟩
instance : TI Try.prog 65 (.nilFunc) 1 8 where
  eq := by kernel_rfl
instance : Flat Try.prog 65 := ⟨by kernel_rfl⟩
instance : TI Try.prog 66 (.nilFunc) 1 8 where
  eq := by kernel_rfl
instance : Flat Try.prog 66 := ⟨by kernel_rfl⟩
instance : TI Try.prog 68 (.nilFunc) 1 8 where
  eq := by kernel_rfl
instance : Flat Try.prog 68 := ⟨by kernel_rfl⟩
instance : TI Try.prog 70 (.nilFunc) 1 8 where
  eq := by kernel_rfl
instance : Flat Try.prog 70 := ⟨by kernel_rfl⟩
instance : TI Try.prog 72 (.nilFunc) 1 8 where
  eq := by kernel_rfl
instance : Flat Try.prog 72 := ⟨by kernel_rfl⟩
instance : TI Try.prog 73 (.nilFunc) 1 8 where
  eq := by kernel_rfl
instance : Flat Try.prog 73 := ⟨by kernel_rfl⟩
instance : TI Try.prog 74 (.nilFunc) 1 8 where
  eq := by kernel_rfl
instance : Flat Try.prog 74 := ⟨by kernel_rfl⟩
instance : TI Try.prog 75 (.agg #[(.int .i64 0), (.int .i64 0)]) 2 16 where
  eq := by kernel_rfl
instance : Agg Try.prog 75 := ⟨by kernel_rfl⟩
instance : Fld Try.prog 75 0 0 := ⟨by kernel_rfl⟩
instance : Fld Try.prog 75 1 1 := ⟨by kernel_rfl⟩
instance : TI Try.prog 76 (.agg #[(.int .i64 0), (.int .i64 0)]) 2 16 where
  eq := by kernel_rfl
instance : Agg Try.prog 76 := ⟨by kernel_rfl⟩
instance : Fld Try.prog 76 0 0 := ⟨by kernel_rfl⟩
instance : Fld Try.prog 76 1 1 := ⟨by kernel_rfl⟩
instance : TI Try.prog 78 (.nilFunc) 1 8 where
  eq := by kernel_rfl
instance : Flat Try.prog 78 := ⟨by kernel_rfl⟩
instance : TI Try.prog 79 (.nilFunc) 1 8 where
  eq := by kernel_rfl
instance : Flat Try.prog 79 := ⟨by kernel_rfl⟩
instance : TI Try.prog 80 (.nilFunc) 1 8 where
  eq := by kernel_rfl
instance : Flat Try.prog 80 := ⟨by kernel_rfl⟩
instance : TI Try.prog 81 (.nilFunc) 1 8 where
  eq := by kernel_rfl
instance : Flat Try.prog 81 := ⟨by kernel_rfl⟩
instance : TI Try.prog 82 (.slice none 0 0) 1 24 where
  eq := by kernel_rfl
instance : Flat Try.prog 82 := ⟨by kernel_rfl⟩
instance : SlT Try.prog 82 140 := ⟨by kernel_rfl⟩
instance : TI Try.prog 83 (.nilFunc) 1 8 where
  eq := by kernel_rfl
instance : Flat Try.prog 83 := ⟨by kernel_rfl⟩
instance : TI Try.prog 84 (.slice none 0 0) 1 24 where
  eq := by kernel_rfl
instance : Flat Try.prog 84 := ⟨by kernel_rfl⟩
instance : SlT Try.prog 84 76 := ⟨by kernel_rfl⟩
instance : TI Try.prog 85 (.nilFunc) 1 8 where
  eq := by kernel_rfl
instance : Flat Try.prog 85 := ⟨by kernel_rfl⟩
instance : TI Try.prog 87 (.nilFunc) 1 8 where
  eq := by kernel_rfl
instance : Flat Try.prog 87 := ⟨by kernel_rfl⟩
instance : TI Try.prog 88 (.nilFunc) 1 8 where
  eq := by kernel_rfl
instance : Flat Try.prog 88 := ⟨by kernel_rfl⟩
instance : TI Try.prog 89 (.nilFunc) 1 8 where
  eq := by kernel_rfl
instance : Flat Try.prog 89 := ⟨by kernel_rfl⟩
instance : TI Try.prog 90 (.nilFunc) 1 8 where
  eq := by kernel_rfl
instance : Flat Try.prog 90 := ⟨by kernel_rfl⟩
instance : TI Try.prog 91 (.nilFunc) 1 8 where
  eq := by kernel_rfl
instance : Flat Try.prog 91 := ⟨by kernel_rfl⟩
instance : TI Try.prog 92 (.nilFunc) 1 8 where
  eq := by kernel_rfl
instance : Flat Try.prog 92 := ⟨by kernel_rfl⟩
instance : TI Try.prog 93 (.nilFunc) 1 8 where
  eq := by kernel_rfl
instance : Flat Try.prog 93 := ⟨by kernel_rfl⟩
instance : TI Try.prog 94 (.nilFunc) 1 8 where
  eq := by kernel_rfl
instance : Flat Try.prog 94 := ⟨by kernel_rfl⟩
instance : TI Try.prog 95 (.nilFunc) 1 8 where
  eq := by kernel_rfl
instance : Flat Try.prog 95 := ⟨by kernel_rfl⟩
instance : TI Try.prog 96 (.nilFunc) 1 8 where
  eq := by kernel_rfl
instance : Flat Try.prog 96 := ⟨by kernel_rfl⟩
instance : TI Try.prog 97 (.agg #[(.string ⟨#[]⟩), (.int .i64 0), (.int .i64 0)]) 3 32 where
  eq := by kernel_rfl
instance : Agg Try.prog 97 := ⟨by kernel_rfl⟩
instance : Fld Try.prog 97 0 0 := ⟨by kernel_rfl⟩
instance : Fld Try.prog 97 1 1 := ⟨by kernel_rfl⟩
instance : TI Try.prog 98 (.agg #[(.string ⟨#[]⟩), (.int .i64 0), (.int .i64 0)]) 3 32 where
  eq := by kernel_rfl
instance : Agg Try.prog 98 := ⟨by kernel_rfl⟩
instance : Fld Try.prog 98 0 0 := ⟨by kernel_rfl⟩
instance : Fld Try.prog 98 1 1 := ⟨by kernel_rfl⟩
instance : TI Try.prog 99 (.nilFunc) 1 8 where
  eq := by kernel_rfl
instance : Flat Try.prog 99 := ⟨by kernel_rfl⟩
instance : TI Try.prog 100 (.nilFunc) 1 8 where
  eq := by kernel_rfl
instance : Flat Try.prog 100 := ⟨by kernel_rfl⟩
instance : TI Try.prog 101 (.pointer none) 1 8 where
  eq := by kernel_rfl
instance : Flat Try.prog 101 := ⟨by kernel_rfl⟩
instance : TI Try.prog 102 (.nilFunc) 1 8 where
  eq := by kernel_rfl
instance : Flat Try.prog 102 := ⟨by kernel_rfl⟩
instance : TI Try.prog 103 (.nilFunc) 1 8 where
  eq := by kernel_rfl
instance : Flat Try.prog 103 := ⟨by kernel_rfl⟩
instance : TI Try.prog 104 (.nilFunc) 1 8 where
  eq := by kernel_rfl
instance : Flat Try.prog 104 := ⟨by kernel_rfl⟩
instance : TI Try.prog 105 (.nilFunc) 1 8 where
  eq := by kernel_rfl
instance : Flat Try.prog 105 := ⟨by kernel_rfl⟩
instance : TI Try.prog 106 (.nilFunc) 1 8 where
  eq := by kernel_rfl
instance : Flat Try.prog 106 := ⟨by kernel_rfl⟩
instance : TI Try.prog 107 (.nilFunc) 1 8 where
  eq := by kernel_rfl
instance : Flat Try.prog 107 := ⟨by kernel_rfl⟩
instance : TI Try.prog 108 (.nilFunc) 1 8 where
  eq := by kernel_rfl
instance : Flat Try.prog 108 := ⟨by kernel_rfl⟩
instance : TI Try.prog 110 (.nilFunc) 1 8 where
  eq := by kernel_rfl
instance : Flat Try.prog 110 := ⟨by kernel_rfl⟩
instance : TI Try.prog 111 (.nilFunc) 1 8 where
  eq := by kernel_rfl
instance : Flat Try.prog 111 := ⟨by kernel_rfl⟩
instance : TI Try.prog 113 (.nilFunc) 1 8 where
  eq := by kernel_rfl
instance : Flat Try.prog 113 := ⟨by kernel_rfl⟩
instance : TI Try.prog 114 (.nilFunc) 1 8 where
  eq := by kernel_rfl
instance : Flat Try.prog 114 := ⟨by kernel_rfl⟩
instance : TI Try.prog 115 (.nilFunc) 1 8 where
  eq := by kernel_rfl
instance : Flat Try.prog 115 := ⟨by kernel_rfl⟩
instance : TI Try.prog 116 (.nilFunc) 1 8 where
  eq := by kernel_rfl
instance : Flat Try.prog 116 := ⟨by kernel_rfl⟩
instance : TI Try.prog 117 (.nilFunc) 1 8 where
  eq := by kernel_rfl
instance : Flat Try.prog 117 := ⟨by kernel_rfl⟩
instance : TI Try.prog 118 (.nilFunc) 1 8 where
  eq := by kernel_rfl
instance : Flat Try.prog 118 := ⟨by kernel_rfl⟩
instance : TI Try.prog 120 (.nilFunc) 1 8 where
  eq := by kernel_rfl
instance : Flat Try.prog 120 := ⟨by kernel_rfl⟩
instance : TI Try.prog 121 (.nilFunc) 1 8 where
  eq := by kernel_rfl
instance : Flat Try.prog 121 := ⟨by kernel_rfl⟩
instance : TI Try.prog 122 (.nilFunc) 1 8 where
  eq := by kernel_rfl
instance : Flat Try.prog 122 := ⟨by kernel_rfl⟩
instance : TI Try.prog 123 (.nilFunc) 1 8 where
  eq := by kernel_rfl
instance : Flat Try.prog 123 := ⟨by kernel_rfl⟩
instance : TI Try.prog 124 (.nilFunc) 1 8 where
  eq := by kernel_rfl
instance : Flat Try.prog 124 := ⟨by kernel_rfl⟩
instance : TI Try.prog 125 (.nilFunc) 1 8 where
  eq := by kernel_rfl
instance : Flat Try.prog 125 := ⟨by kernel_rfl⟩
instance : TI Try.prog 126 (.pointer none) 1 8 where
  eq := by kernel_rfl
instance : Flat Try.prog 126 := ⟨by kernel_rfl⟩
instance : TI Try.prog 127 (.nilFunc) 1 8 where
  eq := by kernel_rfl
instance : Flat Try.prog 127 := ⟨by kernel_rfl⟩
instance : TI Try.prog 128 (.nilFunc) 1 8 where
  eq := by kernel_rfl
instance : Flat Try.prog 128 := ⟨by kernel_rfl⟩
instance : TI Try.prog 129 (.nilFunc) 1 8 where
  eq := by kernel_rfl
instance : Flat Try.prog 129 := ⟨by kernel_rfl⟩
instance : TI Try.prog 130 (.slice none 0 0) 1 24 where
  eq := by kernel_rfl
instance : Flat Try.prog 130 := ⟨by kernel_rfl⟩
instance : SlT Try.prog 130 9 := ⟨by kernel_rfl⟩
instance : TI Try.prog 131 (.nilFunc) 1 8 where
  eq := by kernel_rfl
instance : Flat Try.prog 131 := ⟨by kernel_rfl⟩
instance : TI Try.prog 132 (.nilFunc) 1 8 where
  eq := by kernel_rfl
instance : Flat Try.prog 132 := ⟨by kernel_rfl⟩
instance : TI Try.prog 133 (.nilFunc) 1 8 where
  eq := by kernel_rfl
instance : Flat Try.prog 133 := ⟨by kernel_rfl⟩
instance : TI Try.prog 135 (.nilFunc) 1 8 where
  eq := by kernel_rfl
instance : Flat Try.prog 135 := ⟨by kernel_rfl⟩
instance : TI Try.prog 136 (.nilFunc) 1 8 where
  eq := by kernel_rfl
instance : Flat Try.prog 136 := ⟨by kernel_rfl⟩
instance : TI Try.prog 137 (.nilFunc) 1 8 where
  eq := by kernel_rfl
instance : Flat Try.prog 137 := ⟨by kernel_rfl⟩
instance : TI Try.prog 138 (.nilFunc) 1 8 where
  eq := by kernel_rfl
instance : Flat Try.prog 138 := ⟨by kernel_rfl⟩
instance : TI Try.prog 139 (.nilFunc) 1 8 where
  eq := by kernel_rfl
instance : Flat Try.prog 139 := ⟨by kernel_rfl⟩
instance : TI Try.prog 140 (.agg #[(.int .i64 0), (.int .i64 0)]) 2 16 where
  eq := by kernel_rfl
instance : Agg Try.prog 140 := ⟨by kernel_rfl⟩
instance : Fld Try.prog 140 0 0 := ⟨by kernel_rfl⟩
instance : Fld Try.prog 140 1 1 := ⟨by kernel_rfl⟩
instance : TI Try.prog 141 (.nilFunc) 1 8 where
  eq := by kernel_rfl
instance : Flat Try.prog 141 := ⟨by kernel_rfl⟩
instance : TI Try.prog 142 (.nilFunc) 1 8 where
  eq := by kernel_rfl
instance : Flat Try.prog 142 := ⟨by kernel_rfl⟩
instance : TI Try.prog 143 (.nilFunc) 1 8 where
  eq := by kernel_rfl
instance : Flat Try.prog 143 := ⟨by kernel_rfl⟩
instance : TI Try.prog 144 (.nilFunc) 1 8 where
  eq := by kernel_rfl
instance : Flat Try.prog 144 := ⟨by kernel_rfl⟩
instance : TI Try.prog 145 (.nilFunc) 1 8 where
  eq := by kernel_rfl
instance : Flat Try.prog 145 := ⟨by kernel_rfl⟩
instance : TI Try.prog 146 (.nilFunc) 1 8 where
  eq := by kernel_rfl
instance : Flat Try.prog 146 := ⟨by kernel_rfl⟩
instance : TI Try.prog 147 (.nilFunc) 1 8 where
  eq := by kernel_rfl
instance : Flat Try.prog 147 := ⟨by kernel_rfl⟩
instance : TI Try.prog 148 (.nilFunc) 1 8 where
  eq := by kernel_rfl
instance : Flat Try.prog 148 := ⟨by kernel_rfl⟩
instance : TI Try.prog 149 (.nilFunc) 1 8 where
  eq := by kernel_rfl
instance : Flat Try.prog 149 := ⟨by kernel_rfl⟩
instance : TI Try.prog 150 (.nilFunc) 1 8 where
  eq := by kernel_rfl
instance : Flat Try.prog 150 := ⟨by kernel_rfl⟩
instance : TI Try.prog 151 (.nilFunc) 1 8 where
  eq := by kernel_rfl
instance : Flat Try.prog 151 := ⟨by kernel_rfl⟩
instance : TI Try.prog 152 (.nilFunc) 1 8 where
  eq := by kernel_rfl
instance : Flat Try.prog 152 := ⟨by kernel_rfl⟩
instance : TI Try.prog 153 (.agg #[(.int .i64 0), (.int .i64 0), (.slice none 0 0), (.bool false)]) 4 48 where
  eq := by kernel_rfl
instance : Agg Try.prog 153 := ⟨by kernel_rfl⟩
instance : Fld Try.prog 153 0 0 := ⟨by kernel_rfl⟩
instance : Fld Try.prog 153 1 1 := ⟨by kernel_rfl⟩
instance : Fld Try.prog 153 2 2 := ⟨by kernel_rfl⟩
instance : Fld Try.prog 153 3 3 := ⟨by kernel_rfl⟩
instance : TI Try.prog 154 (.agg #[(.int .i64 0), (.int .i64 0), (.slice none 0 0), (.bool false)]) 4 48 where
  eq := by kernel_rfl
instance : Agg Try.prog 154 := ⟨by kernel_rfl⟩
instance : Fld Try.prog 154 0 0 := ⟨by kernel_rfl⟩
instance : Fld Try.prog 154 1 1 := ⟨by kernel_rfl⟩
instance : Fld Try.prog 154 2 2 := ⟨by kernel_rfl⟩
instance : Fld Try.prog 154 3 3 := ⟨by kernel_rfl⟩
instance : TI Try.prog 155 (.nilFunc) 1 8 where
  eq := by kernel_rfl
instance : Flat Try.prog 155 := ⟨by kernel_rfl⟩
instance : TI Try.prog 156 (.nilFunc) 1 8 where
  eq := by kernel_rfl
instance : Flat Try.prog 156 := ⟨by kernel_rfl⟩
instance : TI Try.prog 157 (.nilFunc) 1 8 where
  eq := by kernel_rfl
instance : Flat Try.prog 157 := ⟨by kernel_rfl⟩
instance : TI Try.prog 158 (.nilFunc) 1 8 where
  eq := by kernel_rfl
instance : Flat Try.prog 158 := ⟨by kernel_rfl⟩
instance : TI Try.prog 159 (.agg #[(.string ⟨#[]⟩), (.int .i64 0), (.int .i64 0)]) 3 32 where
  eq := by kernel_rfl
instance : Agg Try.prog 159 := ⟨by kernel_rfl⟩
instance : Fld Try.prog 159 0 0 := ⟨by kernel_rfl⟩
instance : Fld Try.prog 159 1 1 := ⟨by kernel_rfl⟩
instance : TI Try.prog 160 (.agg #[(.string ⟨#[]⟩), (.int .i64 0), (.int .i64 0)]) 3 32 where
  eq := by kernel_rfl
instance : Agg Try.prog 160 := ⟨by kernel_rfl⟩
instance : Fld Try.prog 160 0 0 := ⟨by kernel_rfl⟩
instance : Fld Try.prog 160 1 1 := ⟨by kernel_rfl⟩
instance : TI Try.prog 161 (.nilFunc) 1 8 where
  eq := by kernel_rfl
instance : Flat Try.prog 161 := ⟨by kernel_rfl⟩
instance : TI Try.prog 162 (.nilFunc) 1 8 where
  eq := by kernel_rfl
instance : Flat Try.prog 162 := ⟨by kernel_rfl⟩
instance : TI Try.prog 163 (.nilFunc) 1 8 where
  eq := by kernel_rfl
instance : Flat Try.prog 163 := ⟨by kernel_rfl⟩
instance : TI Try.prog 164 (.nilFunc) 1 8 where
  eq := by kernel_rfl
instance : Flat Try.prog 164 := ⟨by kernel_rfl⟩
instance : TI Try.prog 165 (.nilFunc) 1 8 where
  eq := by kernel_rfl
instance : Flat Try.prog 165 := ⟨by kernel_rfl⟩
instance : TI Try.prog 166 (.nilFunc) 1 8 where
  eq := by kernel_rfl
instance : Flat Try.prog 166 := ⟨by kernel_rfl⟩
instance : TI Try.prog 167 (.nilFunc) 1 8 where
  eq := by kernel_rfl
instance : Flat Try.prog 167 := ⟨by kernel_rfl⟩
instance : TI Try.prog 168 (.nilFunc) 1 8 where
  eq := by kernel_rfl
instance : Flat Try.prog 168 := ⟨by kernel_rfl⟩
instance : TI Try.prog 169 (.nilFunc) 1 8 where
  eq := by kernel_rfl
instance : Flat Try.prog 169 := ⟨by kernel_rfl⟩
instance : TI Try.prog 170 (.nilFunc) 1 8 where
  eq := by kernel_rfl
instance : Flat Try.prog 170 := ⟨by kernel_rfl⟩
instance : TI Try.prog 171 (.nilFunc) 1 8 where
  eq := by kernel_rfl
instance : Flat Try.prog 171 := ⟨by kernel_rfl⟩
instance : TI Try.prog 172 (.nilFunc) 1 8 where
  eq := by kernel_rfl
instance : Flat Try.prog 172 := ⟨by kernel_rfl⟩
instance : TI Try.prog 173 (.int .u64 0) 1 8 where
  eq := by kernel_rfl
instance : Flat Try.prog 173 := ⟨by kernel_rfl⟩
instance : TI Try.prog 174 (.agg #[(.slice none 0 0), (.int .i64 0), (.int .u64 0)]) 3 40 where
  eq := by kernel_rfl
instance : Agg Try.prog 174 := ⟨by kernel_rfl⟩
instance : Fld Try.prog 174 0 0 := ⟨by kernel_rfl⟩
instance : Fld Try.prog 174 1 1 := ⟨by kernel_rfl⟩
instance : Fld Try.prog 174 2 2 := ⟨by kernel_rfl⟩
instance : TI Try.prog 175 (.agg #[(.slice none 0 0), (.int .i64 0), (.int .u64 0)]) 3 40 where
  eq := by kernel_rfl
instance : Agg Try.prog 175 := ⟨by kernel_rfl⟩
instance : Fld Try.prog 175 0 0 := ⟨by kernel_rfl⟩
instance : Fld Try.prog 175 1 1 := ⟨by kernel_rfl⟩
instance : Fld Try.prog 175 2 2 := ⟨by kernel_rfl⟩
instance : TI Try.prog 176 (.nilFunc) 1 8 where
  eq := by kernel_rfl
instance : Flat Try.prog 176 := ⟨by kernel_rfl⟩
instance : TI Try.prog 177 (.int .u64 0) 1 8 where
  eq := by kernel_rfl
instance : Flat Try.prog 177 := ⟨by kernel_rfl⟩
instance : TI Try.prog 178 (.nilFunc) 1 8 where
  eq := by kernel_rfl
instance : Flat Try.prog 178 := ⟨by kernel_rfl⟩
instance : TI Try.prog 179 (.nilFunc) 1 8 where
  eq := by kernel_rfl
instance : Flat Try.prog 179 := ⟨by kernel_rfl⟩
instance : TI Try.prog 180 (.nilFunc) 1 8 where
  eq := by kernel_rfl
instance : Flat Try.prog 180 := ⟨by kernel_rfl⟩
instance : TI Try.prog 181 (.nilFunc) 1 8 where
  eq := by kernel_rfl
instance : Flat Try.prog 181 := ⟨by kernel_rfl⟩
instance : TI Try.prog 183 (.nilFunc) 1 8 where
  eq := by kernel_rfl
instance : Flat Try.prog 183 := ⟨by kernel_rfl⟩
instance : TI Try.prog 184 (.nilFunc) 1 8 where
  eq := by kernel_rfl
instance : Flat Try.prog 184 := ⟨by kernel_rfl⟩
instance : TI Try.prog 185 (.nilFunc) 1 8 where
  eq := by kernel_rfl
instance : Flat Try.prog 185 := ⟨by kernel_rfl⟩
instance : TI Try.prog 186 (.nilFunc) 1 8 where
  eq := by kernel_rfl
instance : Flat Try.prog 186 := ⟨by kernel_rfl⟩
instance : TI Try.prog 187 (.nilFunc) 1 8 where
  eq := by kernel_rfl
instance : Flat Try.prog 187 := ⟨by kernel_rfl⟩
instance : TI Try.prog 188 (.nilFunc) 1 8 where
  eq := by kernel_rfl
instance : Flat Try.prog 188 := ⟨by kernel_rfl⟩
instance : TI Try.prog 189 (.nilFunc) 1 8 where
  eq := by kernel_rfl
instance : Flat Try.prog 189 := ⟨by kernel_rfl⟩
instance : TI Try.prog 190 (.nilFunc) 1 8 where
  eq := by kernel_rfl
instance : Flat Try.prog 190 := ⟨by kernel_rfl⟩
instance : TI Try.prog 191 (.nilFunc) 1 8 where
  eq := by kernel_rfl
instance : Flat Try.prog 191 := ⟨by kernel_rfl⟩
instance : TI Try.prog 192 (.int .u32 0) 1 4 where
  eq := by kernel_rfl
instance : Flat Try.prog 192 := ⟨by kernel_rfl⟩
instance : TI Try.prog 194 (.nilFunc) 1 8 where
  eq := by kernel_rfl
instance : Flat Try.prog 194 := ⟨by kernel_rfl⟩
instance : TI Try.prog 196 (.nilFunc) 1 8 where
  eq := by kernel_rfl
instance : Flat Try.prog 196 := ⟨by kernel_rfl⟩
instance : TI Try.prog 197 (.nilFunc) 1 8 where
  eq := by kernel_rfl
instance : Flat Try.prog 197 := ⟨by kernel_rfl⟩
instance : TI Try.prog 198 (.nilFunc) 1 8 where
  eq := by kernel_rfl
instance : Flat Try.prog 198 := ⟨by kernel_rfl⟩
instance : TI Try.prog 199 (.nilFunc) 1 8 where
  eq := by kernel_rfl
instance : Flat Try.prog 199 := ⟨by kernel_rfl⟩
instance : TI Try.prog 203 (.agg #[]) 0 0 where
  eq := by kernel_rfl
instance : Agg Try.prog 203 := ⟨by kernel_rfl⟩
instance : TI Try.prog 205 (.nilFunc) 1 8 where
  eq := by kernel_rfl
instance : Flat Try.prog 205 := ⟨by kernel_rfl⟩
instance : TI Try.prog 208 (.nilFunc) 1 8 where
  eq := by kernel_rfl
instance : Flat Try.prog 208 := ⟨by kernel_rfl⟩
instance : TI Try.prog 209 (.pointer none) 1 8 where
  eq := by kernel_rfl
instance : Flat Try.prog 209 := ⟨by kernel_rfl⟩
end Go.Proofs.Ytcfialfgkkjlfaa
