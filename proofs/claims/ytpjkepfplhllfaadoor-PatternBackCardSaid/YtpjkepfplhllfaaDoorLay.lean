/-
What is known of the types of this program: sizes, places of fields, zero values.
-/
import Derived.Test.YtpjkepfplhllfaaDoorAv16
import Derived.Test.YtpjkepfplhllfaaDoorProg
namespace Go.Proofs.YtpjkepfplhllfaaDoor.Av
set_option linter.unusedSimpArgs false
open Go Go.Proofs
theorem lay1 : mkLay Tryd.prog 1 = some ⟨1, false, 8, .nilf, .other⟩ := by kernel_rfl
theorem lay2 : mkLay Tryd.prog 2 = some ⟨1, false, 8, .int .i64 0, .int .i64⟩ := by kernel_rfl
theorem lay3 : mkLay Tryd.prog 3 = some ⟨1, false, 8, .int .i64 0, .int .i64⟩ := by kernel_rfl
theorem lay4 : mkLay Tryd.prog 4 = some ⟨1, false, 1, .bool false, .bool⟩ := by kernel_rfl
theorem lay5 : mkLay Tryd.prog 5 = some ⟨1, false, 1, .int .u8 0, .int .u8⟩ := by kernel_rfl
theorem lay9 : mkLay Tryd.prog 9 = some ⟨1, false, 16, .str [], .string⟩ := by kernel_rfl
theorem lay12 : mkLay Tryd.prog 12 = some ⟨1, false, 8, .int .u64 0, .int .u64⟩ := by kernel_rfl
theorem lay13 : mkLay Tryd.prog 13 = some ⟨2, true, 24, .agg [.str [], .int .u64 0], .struct [(0, 1, false), (1, 1, false)]⟩ := by kernel_rfl
theorem lay19 : mkLay Tryd.prog 19 = some ⟨1, true, 8, .agg [.nilp], .struct [(0, 1, false)]⟩ := by kernel_rfl
theorem lay21 : mkLay Tryd.prog 21 = some ⟨1, false, 4, .int .i32 0, .int .i32⟩ := by kernel_rfl
theorem lay22 : mkLay Tryd.prog 22 = some ⟨1, false, 24, .nils, .slice 110⟩ := by kernel_rfl
theorem lay23 : mkLay Tryd.prog 23 = some ⟨1, false, 24, .nils, .slice 74⟩ := by kernel_rfl
theorem lay24 : mkLay Tryd.prog 24 = some ⟨1, false, 24, .nils, .slice 112⟩ := by kernel_rfl
theorem lay25 : mkLay Tryd.prog 25 = some ⟨1, false, 24, .nils, .slice 48⟩ := by kernel_rfl
theorem lay26 : mkLay Tryd.prog 26 = some ⟨7, true, 128, .agg [.str [], .int .i64 0, .int .i64 0, .nils, .nils, .nils, .nils], .struct [(0, 1, false), (1, 1, false), (2, 1, false), (3, 1, false), (4, 1, false), (5, 1, false), (6, 1, false)]⟩ := by kernel_rfl
theorem lay27 : mkLay Tryd.prog 27 = some ⟨7, true, 128, .agg [.str [], .int .i64 0, .int .i64 0, .nils, .nils, .nils, .nils], .struct [(0, 1, false), (1, 1, false), (2, 1, false), (3, 1, false), (4, 1, false), (5, 1, false), (6, 1, false)]⟩ := by kernel_rfl
theorem lay28 : mkLay Tryd.prog 28 = some ⟨1, false, 8, .nilf, .other⟩ := by kernel_rfl
theorem lay29 : mkLay Tryd.prog 29 = some ⟨1, false, 8, .nilf, .other⟩ := by kernel_rfl
theorem lay30 : mkLay Tryd.prog 30 = some ⟨1, false, 24, .nils, .slice 41⟩ := by kernel_rfl
theorem lay31 : mkLay Tryd.prog 31 = some ⟨1, false, 8, .int .i64 0, .int .i64⟩ := by kernel_rfl
theorem lay33 : mkLay Tryd.prog 33 = some ⟨1, false, 8, .nilf, .other⟩ := by kernel_rfl
theorem lay34 : mkLay Tryd.prog 34 = some ⟨1, false, 8, .nilf, .other⟩ := by kernel_rfl
theorem lay35 : mkLay Tryd.prog 35 = some ⟨1, false, 8, .int .u64 0, .int .u64⟩ := by kernel_rfl
theorem lay36 : mkLay Tryd.prog 36 = some ⟨1, false, 24, .nils, .slice 38⟩ := by kernel_rfl
theorem lay37 : mkLay Tryd.prog 37 = some ⟨6, true, 72, .agg [.int .u8 0, .int .i64 0, .int .u64 0, .str [], .int .i64 0, .nils], .struct [(0, 1, false), (1, 1, false), (2, 1, false), (3, 1, false), (4, 1, false), (5, 1, false)]⟩ := by kernel_rfl
theorem lay38 : mkLay Tryd.prog 38 = some ⟨6, true, 72, .agg [.int .u8 0, .int .i64 0, .int .u64 0, .str [], .int .i64 0, .nils], .struct [(0, 1, false), (1, 1, false), (2, 1, false), (3, 1, false), (4, 1, false), (5, 1, false)]⟩ := by kernel_rfl
theorem lay39 : mkLay Tryd.prog 39 = some ⟨1, false, 24, .nils, .slice 3⟩ := by kernel_rfl
theorem lay40 : mkLay Tryd.prog 40 = some ⟨9, true, 112, .agg [.int .i64 0, .int .i64 0, .int .u8 0, .int .i64 0, .int .u64 0, .str [], .int .i64 0, .nils, .nils], .struct [(0, 1, false), (1, 1, false), (2, 6, true), (8, 1, false)]⟩ := by kernel_rfl
theorem lay41 : mkLay Tryd.prog 41 = some ⟨9, true, 112, .agg [.int .i64 0, .int .i64 0, .int .u8 0, .int .i64 0, .int .u64 0, .str [], .int .i64 0, .nils, .nils], .struct [(0, 1, false), (1, 1, false), (2, 6, true), (8, 1, false)]⟩ := by kernel_rfl
theorem lay42 : mkLay Tryd.prog 42 = some ⟨1, false, 8, .nilf, .other⟩ := by kernel_rfl
theorem lay44 : mkLay Tryd.prog 44 = some ⟨1, false, 8, .nilf, .other⟩ := by kernel_rfl
theorem lay45 : mkLay Tryd.prog 45 = some ⟨1, false, 24, .nils, .slice 51⟩ := by kernel_rfl
theorem lay46 : mkLay Tryd.prog 46 = some ⟨1, false, 24, .nils, .slice 71⟩ := by kernel_rfl
theorem lay47 : mkLay Tryd.prog 47 = some ⟨9, true, 112, .agg [.str [], .int .u64 0, .int .u64 0, .nils, .nils, .int .i64 0, .int .i64 0, .int .i64 0, .int .i64 0], .struct [(0, 1, false), (1, 1, false), (2, 1, false), (3, 1, false), (4, 1, false), (5, 1, false), (6, 1, false), (7, 1, false), (8, 1, false)]⟩ := by kernel_rfl
theorem lay48 : mkLay Tryd.prog 48 = some ⟨9, true, 112, .agg [.str [], .int .u64 0, .int .u64 0, .nils, .nils, .int .i64 0, .int .i64 0, .int .i64 0, .int .i64 0], .struct [(0, 1, false), (1, 1, false), (2, 1, false), (3, 1, false), (4, 1, false), (5, 1, false), (6, 1, false), (7, 1, false), (8, 1, false)]⟩ := by kernel_rfl
theorem lay49 : mkLay Tryd.prog 49 = some ⟨1, false, 24, .nils, .slice 114⟩ := by kernel_rfl
theorem lay50 : mkLay Tryd.prog 50 = some ⟨6, true, 72, .agg [.str [], .int .u8 0, .int .i64 0, .int .i64 0, .nils, .int .i64 0], .struct [(0, 1, false), (1, 1, false), (2, 1, false), (3, 1, false), (4, 1, false), (5, 1, false)]⟩ := by kernel_rfl
theorem lay51 : mkLay Tryd.prog 51 = some ⟨6, true, 72, .agg [.str [], .int .u8 0, .int .i64 0, .int .i64 0, .nils, .int .i64 0], .struct [(0, 1, false), (1, 1, false), (2, 1, false), (3, 1, false), (4, 1, false), (5, 1, false)]⟩ := by kernel_rfl
theorem lay52 : mkLay Tryd.prog 52 = some ⟨1, false, 24, .nils, .slice 68⟩ := by kernel_rfl
theorem lay53 : mkLay Tryd.prog 53 = some ⟨1, false, 8, .nilf, .other⟩ := by kernel_rfl
theorem lay54 : mkLay Tryd.prog 54 = some ⟨1, false, 8, .nilf, .other⟩ := by kernel_rfl
theorem lay56 : mkLay Tryd.prog 56 = some ⟨1, false, 8, .nilf, .other⟩ := by kernel_rfl
theorem lay58 : mkLay Tryd.prog 58 = some ⟨1, false, 8, .nilf, .other⟩ := by kernel_rfl
theorem lay59 : mkLay Tryd.prog 59 = some ⟨1, false, 8, .nilf, .other⟩ := by kernel_rfl
theorem lay60 : mkLay Tryd.prog 60 = some ⟨1, false, 8, .nilf, .other⟩ := by kernel_rfl
theorem lay61 : mkLay Tryd.prog 61 = some ⟨1, false, 8, .nilf, .other⟩ := by kernel_rfl
theorem lay62 : mkLay Tryd.prog 62 = some ⟨1, false, 8, .nilf, .other⟩ := by kernel_rfl
theorem lay63 : mkLay Tryd.prog 63 = some ⟨1, false, 8, .nilf, .other⟩ := by kernel_rfl
theorem lay64 : mkLay Tryd.prog 64 = some ⟨1, false, 24, .nils, .slice 35⟩ := by kernel_rfl
theorem lay65 : mkLay Tryd.prog 65 = some ⟨1, false, 8, .nilf, .other⟩ := by kernel_rfl
theorem lay66 : mkLay Tryd.prog 66 = some ⟨1, false, 8, .nilf, .other⟩ := by kernel_rfl
theorem lay67 : mkLay Tryd.prog 67 = some ⟨7, true, 80, .agg [.int .i64 0, .int .u8 0, .int .i64 0, .int .u64 0, .str [], .int .i64 0, .nils], .struct [(0, 1, false), (1, 6, true)]⟩ := by kernel_rfl
theorem lay68 : mkLay Tryd.prog 68 = some ⟨7, true, 80, .agg [.int .i64 0, .int .u8 0, .int .i64 0, .int .u64 0, .str [], .int .i64 0, .nils], .struct [(0, 1, false), (1, 6, true)]⟩ := by kernel_rfl
theorem lay69 : mkLay Tryd.prog 69 = some ⟨1, false, 8, .nilf, .other⟩ := by kernel_rfl
theorem lay70 : mkLay Tryd.prog 70 = some ⟨21, true, 240, .agg [.int .u8 0, .int .i64 0, .int .i64 0, .int .u8 0, .int .i64 0, .int .u64 0, .str [], .int .i64 0, .nils, .int .u8 0, .int .i64 0, .int .u64 0, .str [], .int .i64 0, .nils, .int .u8 0, .int .i64 0, .int .u64 0, .str [], .int .i64 0, .nils], .struct [(0, 1, false), (1, 1, false), (2, 1, false), (3, 6, true), (9, 6, true), (15, 6, true)]⟩ := by kernel_rfl
theorem lay71 : mkLay Tryd.prog 71 = some ⟨21, true, 240, .agg [.int .u8 0, .int .i64 0, .int .i64 0, .int .u8 0, .int .i64 0, .int .u64 0, .str [], .int .i64 0, .nils, .int .u8 0, .int .i64 0, .int .u64 0, .str [], .int .i64 0, .nils, .int .u8 0, .int .i64 0, .int .u64 0, .str [], .int .i64 0, .nils], .struct [(0, 1, false), (1, 1, false), (2, 1, false), (3, 6, true), (9, 6, true), (15, 6, true)]⟩ := by kernel_rfl
theorem lay72 : mkLay Tryd.prog 72 = some ⟨1, false, 8, .nilf, .other⟩ := by kernel_rfl
theorem lay73 : mkLay Tryd.prog 73 = some ⟨2, true, 40, .agg [.str [], .nils], .struct [(0, 1, false), (1, 1, false)]⟩ := by kernel_rfl
theorem lay74 : mkLay Tryd.prog 74 = some ⟨2, true, 40, .agg [.str [], .nils], .struct [(0, 1, false), (1, 1, false)]⟩ := by kernel_rfl
theorem lay75 : mkLay Tryd.prog 75 = some ⟨1, false, 8, .nilf, .other⟩ := by kernel_rfl
theorem lay76 : mkLay Tryd.prog 76 = some ⟨1, false, 8, .nilf, .other⟩ := by kernel_rfl
theorem lay77 : mkLay Tryd.prog 77 = some ⟨1, false, 8, .nilp, .other⟩ := by kernel_rfl
theorem lay78 : mkLay Tryd.prog 78 = some ⟨8, true, 136, .agg [.str [], .int .i64 0, .int .i64 0, .nils, .nils, .nils, .nils, .bool false], .struct [(0, 7, true), (7, 1, false)]⟩ := by kernel_rfl
theorem lay79 : mkLay Tryd.prog 79 = some ⟨8, true, 136, .agg [.str [], .int .i64 0, .int .i64 0, .nils, .nils, .nils, .nils, .bool false], .struct [(0, 7, true), (7, 1, false)]⟩ := by kernel_rfl
theorem lay80 : mkLay Tryd.prog 80 = some ⟨1, false, 8, .nilf, .other⟩ := by kernel_rfl
theorem lay81 : mkLay Tryd.prog 81 = some ⟨1, false, 8, .nilf, .other⟩ := by kernel_rfl
theorem lay82 : mkLay Tryd.prog 82 = some ⟨1, false, 8, .nilf, .other⟩ := by kernel_rfl
theorem lay83 : mkLay Tryd.prog 83 = some ⟨1, false, 24, .nils, .slice 9⟩ := by kernel_rfl
theorem lay84 : mkLay Tryd.prog 84 = some ⟨1, true, 24, .agg [.nils], .struct [(0, 1, false)]⟩ := by kernel_rfl
theorem lay85 : mkLay Tryd.prog 85 = some ⟨1, true, 24, .agg [.nils], .struct [(0, 1, false)]⟩ := by kernel_rfl
theorem lay86 : mkLay Tryd.prog 86 = some ⟨1, false, 8, .nilf, .other⟩ := by kernel_rfl
theorem lay87 : mkLay Tryd.prog 87 = some ⟨1, false, 8, .nilf, .other⟩ := by kernel_rfl
theorem lay88 : mkLay Tryd.prog 88 = some ⟨1, false, 8, .nilf, .other⟩ := by kernel_rfl
theorem lay89 : mkLay Tryd.prog 89 = some ⟨1, false, 8, .nilf, .other⟩ := by kernel_rfl
theorem lay90 : mkLay Tryd.prog 90 = some ⟨1, false, 8, .nilf, .other⟩ := by kernel_rfl
theorem lay91 : mkLay Tryd.prog 91 = some ⟨1, false, 8, .nilm, .map 9 3⟩ := by kernel_rfl
theorem lay93 : mkLay Tryd.prog 93 = some ⟨1, false, 8, .nilf, .other⟩ := by kernel_rfl
theorem lay95 : mkLay Tryd.prog 95 = some ⟨1, false, 8, .nilf, .other⟩ := by kernel_rfl
theorem lay96 : mkLay Tryd.prog 96 = some ⟨1, false, 8, .nilf, .other⟩ := by kernel_rfl
theorem lay98 : mkLay Tryd.prog 98 = some ⟨1, false, 8, .nilf, .other⟩ := by kernel_rfl
theorem lay99 : mkLay Tryd.prog 99 = some ⟨1, false, 8, .nilm, .map 3 38⟩ := by kernel_rfl
theorem lay100 : mkLay Tryd.prog 100 = some ⟨1, false, 8, .nilf, .other⟩ := by kernel_rfl
theorem lay102 : mkLay Tryd.prog 102 = some ⟨1, false, 8, .nilf, .other⟩ := by kernel_rfl
theorem lay103 : mkLay Tryd.prog 103 = some ⟨1, false, 8, .nilf, .other⟩ := by kernel_rfl
theorem lay104 : mkLay Tryd.prog 104 = some ⟨1, false, 8, .nilm, .map 9 38⟩ := by kernel_rfl
theorem lay105 : mkLay Tryd.prog 105 = some ⟨1, false, 8, .nilf, .other⟩ := by kernel_rfl
theorem lay106 : mkLay Tryd.prog 106 = some ⟨1, false, 8, .nilf, .other⟩ := by kernel_rfl
theorem lay107 : mkLay Tryd.prog 107 = some ⟨1, false, 8, .nilp, .other⟩ := by kernel_rfl
theorem lay108 : mkLay Tryd.prog 108 = some ⟨1, false, 8, .nilf, .other⟩ := by kernel_rfl
theorem lay109 : mkLay Tryd.prog 109 = some ⟨4, true, 40, .agg [.str [], .int .i64 0, .int .i64 0, .int .i64 0], .struct [(0, 1, false), (1, 1, false), (2, 1, false), (3, 1, false)]⟩ := by kernel_rfl
theorem lay110 : mkLay Tryd.prog 110 = some ⟨4, true, 40, .agg [.str [], .int .i64 0, .int .i64 0, .int .i64 0], .struct [(0, 1, false), (1, 1, false), (2, 1, false), (3, 1, false)]⟩ := by kernel_rfl
theorem lay111 : mkLay Tryd.prog 111 = some ⟨2, true, 24, .agg [.str [], .int .i64 0], .struct [(0, 1, false), (1, 1, false)]⟩ := by kernel_rfl
theorem lay112 : mkLay Tryd.prog 112 = some ⟨2, true, 24, .agg [.str [], .int .i64 0], .struct [(0, 1, false), (1, 1, false)]⟩ := by kernel_rfl
theorem lay113 : mkLay Tryd.prog 113 = some ⟨2, true, 16, .agg [.int .i64 0, .int .i64 0], .struct [(0, 1, false), (1, 1, false)]⟩ := by kernel_rfl
theorem lay114 : mkLay Tryd.prog 114 = some ⟨2, true, 16, .agg [.int .i64 0, .int .i64 0], .struct [(0, 1, false), (1, 1, false)]⟩ := by kernel_rfl
theorem lay116 : mkLay Tryd.prog 116 = some ⟨1, false, 8, .nilf, .other⟩ := by kernel_rfl
theorem lay117 : mkLay Tryd.prog 117 = some ⟨1, false, 8, .nilf, .other⟩ := by kernel_rfl
theorem lay118 : mkLay Tryd.prog 118 = some ⟨1, false, 24, .nils, .slice 4⟩ := by kernel_rfl
theorem lay119 : mkLay Tryd.prog 119 = some ⟨1, false, 8, .nilf, .other⟩ := by kernel_rfl
theorem lay120 : mkLay Tryd.prog 120 = some ⟨1, false, 8, .nilp, .other⟩ := by kernel_rfl
theorem lay121 : mkLay Tryd.prog 121 = some ⟨1, false, 8, .nilf, .other⟩ := by kernel_rfl
theorem lay122 : mkLay Tryd.prog 122 = some ⟨1, false, 8, .nilf, .other⟩ := by kernel_rfl
theorem lay123 : mkLay Tryd.prog 123 = some ⟨1, false, 8, .nilf, .other⟩ := by kernel_rfl
theorem lay124 : mkLay Tryd.prog 124 = some ⟨1, false, 8, .nilf, .other⟩ := by kernel_rfl
theorem lay125 : mkLay Tryd.prog 125 = some ⟨1, false, 8, .nilm, .map 5 3⟩ := by kernel_rfl
theorem lay126 : mkLay Tryd.prog 126 = some ⟨1, false, 8, .nilf, .other⟩ := by kernel_rfl
theorem lay127 : mkLay Tryd.prog 127 = some ⟨1, false, 8, .nilf, .other⟩ := by kernel_rfl
theorem lay128 : mkLay Tryd.prog 128 = some ⟨1, false, 8, .nilf, .other⟩ := by kernel_rfl
theorem lay129 : mkLay Tryd.prog 129 = some ⟨3, true, 32, .agg [.str [], .int .i64 0, .int .i64 0], .struct [(0, 1, false), (1, 1, false), (2, 1, false)]⟩ := by kernel_rfl
theorem lay130 : mkLay Tryd.prog 130 = some ⟨3, true, 32, .agg [.str [], .int .i64 0, .int .i64 0], .struct [(0, 1, false), (1, 1, false), (2, 1, false)]⟩ := by kernel_rfl
theorem lay132 : mkLay Tryd.prog 132 = some ⟨1, false, 8, .nilf, .other⟩ := by kernel_rfl
theorem lay133 : mkLay Tryd.prog 133 = some ⟨1, false, 8, .nilf, .other⟩ := by kernel_rfl
theorem lay134 : mkLay Tryd.prog 134 = some ⟨1, false, 8, .nilf, .other⟩ := by kernel_rfl
theorem lay135 : mkLay Tryd.prog 135 = some ⟨1, false, 8, .nilm, .map 9 4⟩ := by kernel_rfl
theorem lay136 : mkLay Tryd.prog 136 = some ⟨1, false, 8, .nilf, .other⟩ := by kernel_rfl
theorem lay137 : mkLay Tryd.prog 137 = some ⟨1, false, 8, .nilf, .other⟩ := by kernel_rfl
theorem lay138 : mkLay Tryd.prog 138 = some ⟨1, false, 8, .nilf, .other⟩ := by kernel_rfl
theorem lay139 : mkLay Tryd.prog 139 = some ⟨1, false, 8, .nilf, .other⟩ := by kernel_rfl
theorem lay141 : mkLay Tryd.prog 141 = some ⟨1, false, 8, .nilf, .other⟩ := by kernel_rfl
theorem lay143 : mkLay Tryd.prog 143 = some ⟨1, false, 8, .nilf, .other⟩ := by kernel_rfl
theorem lay144 : mkLay Tryd.prog 144 = some ⟨1, false, 8, .nilf, .other⟩ := by kernel_rfl
theorem lay145 : mkLay Tryd.prog 145 = some ⟨1, false, 8, .nilf, .other⟩ := by kernel_rfl
theorem lay146 : mkLay Tryd.prog 146 = some ⟨1, false, 8, .nilf, .other⟩ := by kernel_rfl
theorem lay147 : mkLay Tryd.prog 147 = some ⟨1, false, 8, .nilf, .other⟩ := by kernel_rfl
theorem lay148 : mkLay Tryd.prog 148 = some ⟨1, false, 8, .nilf, .other⟩ := by kernel_rfl
theorem lay149 : mkLay Tryd.prog 149 = some ⟨1, false, 8, .nilf, .other⟩ := by kernel_rfl
theorem lay150 : mkLay Tryd.prog 150 = some ⟨1, false, 8, .nilf, .other⟩ := by kernel_rfl
theorem lay151 : mkLay Tryd.prog 151 = some ⟨75, true, 800, .agg [.str [], .int .i64 0, .int .i64 0, .str [], .int .i64 0, .int .i64 0, .str [], .int .i64 0, .int .i64 0, .str [], .int .i64 0, .int .i64 0, .str [], .int .i64 0, .int .i64 0, .str [], .int .i64 0, .int .i64 0, .str [], .int .i64 0, .int .i64 0, .str [], .int .i64 0, .int .i64 0, .str [], .int .i64 0, .int .i64 0, .str [], .int .i64 0, .int .i64 0, .str [], .int .i64 0, .int .i64 0, .str [], .int .i64 0, .int .i64 0, .str [], .int .i64 0, .int .i64 0, .str [], .int .i64 0, .int .i64 0, .str [], .int .i64 0, .int .i64 0, .str [], .int .i64 0, .int .i64 0, .str [], .int .i64 0, .int .i64 0, .str [], .int .i64 0, .int .i64 0, .str [], .int .i64 0, .int .i64 0, .str [], .int .i64 0, .int .i64 0, .str [], .int .i64 0, .int .i64 0, .str [], .int .i64 0, .int .i64 0, .str [], .int .i64 0, .int .i64 0, .str [], .int .i64 0, .int .i64 0, .str [], .int .i64 0, .int .i64 0], .array 25 130⟩ := by kernel_rfl
theorem lay152 : mkLay Tryd.prog 152 = some ⟨1, false, 8, .nilf, .other⟩ := by kernel_rfl
theorem lay153 : mkLay Tryd.prog 153 = some ⟨1, false, 8, .nilf, .other⟩ := by kernel_rfl
theorem lay154 : mkLay Tryd.prog 154 = some ⟨1, false, 8, .nilf, .other⟩ := by kernel_rfl
theorem lay155 : mkLay Tryd.prog 155 = some ⟨1, false, 8, .nilf, .other⟩ := by kernel_rfl
theorem lay157 : mkLay Tryd.prog 157 = some ⟨1, false, 8, .nilf, .other⟩ := by kernel_rfl
theorem lay158 : mkLay Tryd.prog 158 = some ⟨1, false, 8, .nilf, .other⟩ := by kernel_rfl
theorem lay159 : mkLay Tryd.prog 159 = some ⟨1, false, 8, .nilf, .other⟩ := by kernel_rfl
theorem lay160 : mkLay Tryd.prog 160 = some ⟨1, false, 8, .nilf, .other⟩ := by kernel_rfl
theorem lay161 : mkLay Tryd.prog 161 = some ⟨1, false, 8, .int .u64 0, .int .u64⟩ := by kernel_rfl
theorem lay162 : mkLay Tryd.prog 162 = some ⟨1, false, 8, .nilf, .other⟩ := by kernel_rfl
theorem lay163 : mkLay Tryd.prog 163 = some ⟨1, false, 8, .nilf, .other⟩ := by kernel_rfl
theorem lay169 : mkLay Tryd.prog 169 = some ⟨1, false, 8, .nilf, .other⟩ := by kernel_rfl
theorem lay170 : mkLay Tryd.prog 170 = some ⟨1, false, 4, .int .u32 0, .int .u32⟩ := by kernel_rfl
theorem lay173 : mkLay Tryd.prog 173 = some ⟨1, false, 8, .nilf, .other⟩ := by kernel_rfl
theorem lay174 : mkLay Tryd.prog 174 = some ⟨1, false, 8, .nilp, .other⟩ := by kernel_rfl
end Go.Proofs.YtpjkepfplhllfaaDoor.Av
