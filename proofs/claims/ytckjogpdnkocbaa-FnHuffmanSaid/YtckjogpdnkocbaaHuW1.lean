/- A part of the proof: The law FnHuffman is proved for every input: it returns true and its arguments read as before. No condition. How: an abstract run of the program (told in Lean, proved sound against the model) is computed for every drawn list of weights; that no code costs less than Huffman's, and that his fills all room, is proved in plain Lean on lists of trees. -/
import Derived.Test.YtckjogpdnkocbaaProg
import Derived.KernelRfl
import Derived.Test.YtckjogpdnkocbaaDen6
set_option linter.unusedSimpArgs false
set_option linter.unusedVariables false
namespace Go.Proofs.Ytckjogpdnkocbaa.Den
open Go.Proofs
@[simp] theorem tab1 : tab Try.prog 1 = some ⟨1, 8, false, none, none, false, [], some [.nilFunc]⟩ := by kernel_rfl
@[simp] theorem tab2 : tab Try.prog 2 = some ⟨1, 8, false, none, some .i64, false, [], some [.int .i64 0]⟩ := by kernel_rfl
@[simp] theorem tab3 : tab Try.prog 3 = some ⟨1, 8, false, none, some .i64, false, [], some [.int .i64 0]⟩ := by kernel_rfl
@[simp] theorem tab4 : tab Try.prog 4 = some ⟨1, 1, false, none, none, false, [], some [.bool false]⟩ := by kernel_rfl
@[simp] theorem bt4 : boolT Try.prog 4 = true := by kernel_rfl
@[simp] theorem tab5 : tab Try.prog 5 = some ⟨1, 1, false, none, some .u8, false, [], some [.int .u8 0]⟩ := by kernel_rfl
@[simp] theorem tab6 : tab Try.prog 6 = some ⟨1, 1, false, none, some .u8, false, [], some [.int .u8 0]⟩ := by kernel_rfl
@[simp] theorem tab7 : tab Try.prog 7 = some ⟨4, 24, true, none, none, false, [(0, 2), (1, 3), (2, 4), (3, 6)], some [.int .i64 0, .int .i64 0, .bool false, .int .u8 0]⟩ := by kernel_rfl
@[simp] theorem tab8 : tab Try.prog 8 = some ⟨4, 24, true, none, none, false, [(0, 2), (1, 3), (2, 4), (3, 6)], some [.int .i64 0, .int .i64 0, .bool false, .int .u8 0]⟩ := by kernel_rfl
@[simp] theorem tab9 : tab Try.prog 9 = some ⟨1, 16, false, none, none, true, [], some [.string ⟨#[]⟩]⟩ := by kernel_rfl
@[simp] theorem tab10 : tab Try.prog 10 = some ⟨1, 16, false, none, none, true, [], some [.string ⟨#[]⟩]⟩ := by kernel_rfl
@[simp] theorem tab11 : tab Try.prog 11 = some ⟨1, 16, false, none, none, true, [], some [.string ⟨#[]⟩]⟩ := by kernel_rfl
@[simp] theorem tab12 : tab Try.prog 12 = some ⟨1, 8, false, none, some .u64, false, [], some [.int .u64 0]⟩ := by kernel_rfl
@[simp] theorem tab13 : tab Try.prog 13 = some ⟨2, 24, true, none, none, false, [(0, 9), (1, 12)], some [.string ⟨#[]⟩, .int .u64 0]⟩ := by kernel_rfl
@[simp] theorem tab14 : tab Try.prog 14 = some ⟨2, 24, true, none, none, false, [(0, 9), (1, 12)], some [.string ⟨#[]⟩, .int .u64 0]⟩ := by kernel_rfl
@[simp] theorem tab15 : tab Try.prog 15 = some ⟨1, 8, false, none, none, false, [], some [.pointer none]⟩ := by kernel_rfl
@[simp] theorem tab16 : tab Try.prog 16 = some ⟨1, 8, false, none, none, false, [], some [.pointer none]⟩ := by kernel_rfl
@[simp] theorem tab17 : tab Try.prog 17 = some ⟨1, 8, false, none, none, false, [], some [.pointer none]⟩ := by kernel_rfl
@[simp] theorem tab18 : tab Try.prog 18 = some ⟨1, 8, true, none, none, false, [(0, 17)], some [.pointer none]⟩ := by kernel_rfl
@[simp] theorem tab19 : tab Try.prog 19 = some ⟨1, 8, true, none, none, false, [(0, 17)], some [.pointer none]⟩ := by kernel_rfl
@[simp] theorem tab20 : tab Try.prog 20 = some ⟨1, 16, false, none, none, false, [], some [.nilIface]⟩ := by kernel_rfl
@[simp] theorem it20 : ifcT Try.prog 20 = true := by kernel_rfl
@[simp] theorem tab21 : tab Try.prog 21 = some ⟨1, 4, false, none, some .i32, false, [], some [.int .i32 0]⟩ := by kernel_rfl
@[simp] theorem tab22 : tab Try.prog 22 = some ⟨1, 24, false, some 3, none, false, [], some [.slice none 0 0]⟩ := by kernel_rfl
@[simp] theorem es22 : elemSz Try.prog 22 = some 1 := by kernel_rfl
@[simp] theorem el22 : elemTI Try.prog 22 = some ⟨1, 8, false, none, some .i64, false, [], some [.int .i64 0]⟩ := by kernel_rfl
@[simp] theorem tab24 : tab Try.prog 24 = some ⟨1, 8, false, none, none, false, [], some [.nilFunc]⟩ := by kernel_rfl
@[simp] theorem tab25 : tab Try.prog 25 = some ⟨1, 8, false, none, none, false, [], some [.nilFunc]⟩ := by kernel_rfl
@[simp] theorem tab26 : tab Try.prog 26 = some ⟨1, 8, false, none, none, false, [], some [.nilFunc]⟩ := by kernel_rfl
@[simp] theorem tab27 : tab Try.prog 27 = some ⟨1, 8, false, none, none, false, [], some [.nilFunc]⟩ := by kernel_rfl
@[simp] theorem tab28 : tab Try.prog 28 = some ⟨1, 8, false, none, none, false, [], some [.nilFunc]⟩ := by kernel_rfl
@[simp] theorem tab29 : tab Try.prog 29 = some ⟨1, 24, false, some 5, none, false, [], some [.slice none 0 0]⟩ := by kernel_rfl
@[simp] theorem es29 : elemSz Try.prog 29 = some 1 := by kernel_rfl
@[simp] theorem el29 : elemTI Try.prog 29 = some ⟨1, 1, false, none, some .u8, false, [], some [.int .u8 0]⟩ := by kernel_rfl
@[simp] theorem tab30 : tab Try.prog 30 = some ⟨1, 8, false, none, none, false, [], some [.nilFunc]⟩ := by kernel_rfl
@[simp] theorem tab32 : tab Try.prog 32 = some ⟨1, 8, false, none, none, false, [], some [.nilFunc]⟩ := by kernel_rfl
@[simp] theorem tab33 : tab Try.prog 33 = some ⟨1, 8, false, none, none, false, [], some [.nilFunc]⟩ := by kernel_rfl
@[simp] theorem tab35 : tab Try.prog 35 = some ⟨1, 8, false, none, none, false, [], some [.nilFunc]⟩ := by kernel_rfl
@[simp] theorem tab36 : tab Try.prog 36 = some ⟨1, 8, false, none, none, false, [], some [.nilFunc]⟩ := by kernel_rfl
@[simp] theorem tab37 : tab Try.prog 37 = some ⟨1, 24, false, some 41, none, false, [], some [.slice none 0 0]⟩ := by kernel_rfl
@[simp] theorem es37 : elemSz Try.prog 37 = some 2 := by kernel_rfl
@[simp] theorem el37 : elemTI Try.prog 37 = some ⟨2, 32, true, none, none, false, [(0, 9), (1, 9)], some [.string ⟨#[]⟩, .string ⟨#[]⟩]⟩ := by kernel_rfl
@[simp] theorem tab38 : tab Try.prog 38 = some ⟨4, 64, true, none, none, false, [(0, 3), (1, 3), (2, 37), (3, 37)], some [.int .i64 0, .int .i64 0, .slice none 0 0, .slice none 0 0]⟩ := by kernel_rfl
@[simp] theorem tab39 : tab Try.prog 39 = some ⟨4, 64, true, none, none, false, [(0, 3), (1, 3), (2, 37), (3, 37)], some [.int .i64 0, .int .i64 0, .slice none 0 0, .slice none 0 0]⟩ := by kernel_rfl
@[simp] theorem tab40 : tab Try.prog 40 = some ⟨2, 32, true, none, none, false, [(0, 9), (1, 9)], some [.string ⟨#[]⟩, .string ⟨#[]⟩]⟩ := by kernel_rfl
@[simp] theorem tab41 : tab Try.prog 41 = some ⟨2, 32, true, none, none, false, [(0, 9), (1, 9)], some [.string ⟨#[]⟩, .string ⟨#[]⟩]⟩ := by kernel_rfl
@[simp] theorem tab42 : tab Try.prog 42 = some ⟨1, 8, false, none, none, false, [], some [.nilFunc]⟩ := by kernel_rfl
@[simp] theorem tab43 : tab Try.prog 43 = some ⟨1, 8, false, none, none, false, [], some [.nilFunc]⟩ := by kernel_rfl
@[simp] theorem tab44 : tab Try.prog 44 = some ⟨1, 24, false, some 50, none, false, [], some [.slice none 0 0]⟩ := by kernel_rfl
@[simp] theorem es44 : elemSz Try.prog 44 = some 2 := by kernel_rfl
@[simp] theorem el44 : elemTI Try.prog 44 = some ⟨2, 32, true, none, none, false, [(0, 9), (1, 9)], some [.string ⟨#[]⟩, .string ⟨#[]⟩]⟩ := by kernel_rfl
@[simp] theorem tab45 : tab Try.prog 45 = some ⟨4, 64, true, none, none, false, [(0, 3), (1, 3), (2, 44), (3, 44)], some [.int .i64 0, .int .i64 0, .slice none 0 0, .slice none 0 0]⟩ := by kernel_rfl
@[simp] theorem tab46 : tab Try.prog 46 = some ⟨4, 64, true, none, none, false, [(0, 3), (1, 3), (2, 44), (3, 44)], some [.int .i64 0, .int .i64 0, .slice none 0 0, .slice none 0 0]⟩ := by kernel_rfl
@[simp] theorem tab48 : tab Try.prog 48 = some ⟨1, 8, false, none, none, false, [], some [.nilFunc]⟩ := by kernel_rfl
@[simp] theorem tab49 : tab Try.prog 49 = some ⟨1, 8, false, none, none, false, [], some [.nilFunc]⟩ := by kernel_rfl
@[simp] theorem tab50 : tab Try.prog 50 = some ⟨2, 32, true, none, none, false, [(0, 9), (1, 9)], some [.string ⟨#[]⟩, .string ⟨#[]⟩]⟩ := by kernel_rfl
@[simp] theorem tab51 : tab Try.prog 51 = some ⟨1, 8, false, none, none, false, [], some [.nilFunc]⟩ := by kernel_rfl
@[simp] theorem tab52 : tab Try.prog 52 = some ⟨1, 8, false, none, none, false, [], some [.nilFunc]⟩ := by kernel_rfl
@[simp] theorem tab53 : tab Try.prog 53 = some ⟨1, 8, false, none, none, false, [], some [.nilFunc]⟩ := by kernel_rfl
@[simp] theorem tab54 : tab Try.prog 54 = some ⟨1, 8, false, none, none, false, [], some [.nilFunc]⟩ := by kernel_rfl
@[simp] theorem tab55 : tab Try.prog 55 = some ⟨1, 8, false, none, none, false, [], some [.nilFunc]⟩ := by kernel_rfl
@[simp] theorem tab56 : tab Try.prog 56 = some ⟨1, 8, false, none, none, false, [], some [.nilFunc]⟩ := by kernel_rfl
@[simp] theorem tab58 : tab Try.prog 58 = some ⟨1, 8, false, none, none, false, [], some [.nilFunc]⟩ := by kernel_rfl
@[simp] theorem tab60 : tab Try.prog 60 = some ⟨1, 8, false, none, none, false, [], some [.nilFunc]⟩ := by kernel_rfl
@[simp] theorem tab62 : tab Try.prog 62 = some ⟨1, 8, false, none, none, false, [], some [.nilFunc]⟩ := by kernel_rfl
@[simp] theorem tab63 : tab Try.prog 63 = some ⟨1, 24, false, some 9, none, false, [], some [.slice none 0 0]⟩ := by kernel_rfl
@[simp] theorem es63 : elemSz Try.prog 63 = some 1 := by kernel_rfl
@[simp] theorem el63 : elemTI Try.prog 63 = some ⟨1, 16, false, none, none, true, [], some [.string ⟨#[]⟩]⟩ := by kernel_rfl
@[simp] theorem tab65 : tab Try.prog 65 = some ⟨1, 8, false, none, none, false, [], some [.nilFunc]⟩ := by kernel_rfl
@[simp] theorem tab66 : tab Try.prog 66 = some ⟨1, 8, false, none, none, false, [], some [.nilFunc]⟩ := by kernel_rfl
@[simp] theorem tab68 : tab Try.prog 68 = some ⟨1, 8, false, none, none, false, [], some [.nilFunc]⟩ := by kernel_rfl
@[simp] theorem tab70 : tab Try.prog 70 = some ⟨1, 8, false, none, none, false, [], some [.nilFunc]⟩ := by kernel_rfl
@[simp] theorem tab71 : tab Try.prog 71 = some ⟨1, 24, false, some 73, none, false, [], some [.slice none 0 0]⟩ := by kernel_rfl
@[simp] theorem es71 : elemSz Try.prog 71 = some 2 := by kernel_rfl
@[simp] theorem el71 : elemTI Try.prog 71 = some ⟨2, 32, true, none, none, false, [(0, 3), (1, 22)], some [.int .i64 0, .slice none 0 0]⟩ := by kernel_rfl
@[simp] theorem tab72 : tab Try.prog 72 = some ⟨2, 32, true, none, none, false, [(0, 3), (1, 22)], some [.int .i64 0, .slice none 0 0]⟩ := by kernel_rfl
@[simp] theorem tab73 : tab Try.prog 73 = some ⟨2, 32, true, none, none, false, [(0, 3), (1, 22)], some [.int .i64 0, .slice none 0 0]⟩ := by kernel_rfl
@[simp] theorem tab74 : tab Try.prog 74 = some ⟨1, 24, false, some 76, none, false, [], some [.slice none 0 0]⟩ := by kernel_rfl
@[simp] theorem es74 : elemSz Try.prog 74 = some 2 := by kernel_rfl
@[simp] theorem el74 : elemTI Try.prog 74 = some ⟨2, 32, true, none, none, false, [(0, 3), (1, 22)], some [.int .i64 0, .slice none 0 0]⟩ := by kernel_rfl
@[simp] theorem tab75 : tab Try.prog 75 = some ⟨2, 32, true, none, none, false, [(0, 3), (1, 22)], some [.int .i64 0, .slice none 0 0]⟩ := by kernel_rfl
@[simp] theorem tab76 : tab Try.prog 76 = some ⟨2, 32, true, none, none, false, [(0, 3), (1, 22)], some [.int .i64 0, .slice none 0 0]⟩ := by kernel_rfl
@[simp] theorem tab77 : tab Try.prog 77 = some ⟨1, 8, false, none, none, false, [], some [.nilFunc]⟩ := by kernel_rfl
@[simp] theorem tab78 : tab Try.prog 78 = some ⟨1, 8, false, none, none, false, [], some [.nilFunc]⟩ := by kernel_rfl
@[simp] theorem tab79 : tab Try.prog 79 = some ⟨1, 8, false, none, none, false, [], some [.nilFunc]⟩ := by kernel_rfl
@[simp] theorem tab80 : tab Try.prog 80 = some ⟨1, 8, false, none, none, false, [], some [.nilFunc]⟩ := by kernel_rfl
@[simp] theorem tab81 : tab Try.prog 81 = some ⟨1, 8, false, none, none, false, [], some [.pointer none]⟩ := by kernel_rfl
@[simp] theorem tab82 : tab Try.prog 82 = some ⟨1, 8, false, none, some .u64, false, [], some [.int .u64 0]⟩ := by kernel_rfl
@[simp] theorem tab83 : tab Try.prog 83 = some ⟨3, 40, true, none, none, false, [(0, 29), (1, 3), (2, 82)], some [.slice none 0 0, .int .i64 0, .int .u64 0]⟩ := by kernel_rfl
@[simp] theorem tab84 : tab Try.prog 84 = some ⟨3, 40, true, none, none, false, [(0, 29), (1, 3), (2, 82)], some [.slice none 0 0, .int .i64 0, .int .u64 0]⟩ := by kernel_rfl
@[simp] theorem tab85 : tab Try.prog 85 = some ⟨1, 8, false, none, none, false, [], some [.nilFunc]⟩ := by kernel_rfl
@[simp] theorem tab86 : tab Try.prog 86 = some ⟨1, 8, false, none, none, false, [], some [.nilFunc]⟩ := by kernel_rfl
@[simp] theorem tab87 : tab Try.prog 87 = some ⟨1, 8, false, none, none, false, [], some [.nilFunc]⟩ := by kernel_rfl
@[simp] theorem tab88 : tab Try.prog 88 = some ⟨1, 8, false, none, none, false, [], some [.nilFunc]⟩ := by kernel_rfl
@[simp] theorem tab89 : tab Try.prog 89 = some ⟨1, 8, false, none, none, false, [], some [.nilFunc]⟩ := by kernel_rfl
@[simp] theorem tab90 : tab Try.prog 90 = some ⟨1, 8, false, none, none, false, [], some [.nilFunc]⟩ := by kernel_rfl
@[simp] theorem tab92 : tab Try.prog 92 = some ⟨1, 8, false, none, none, false, [], some [.nilFunc]⟩ := by kernel_rfl
@[simp] theorem tab93 : tab Try.prog 93 = some ⟨1, 8, false, none, none, false, [], some [.nilFunc]⟩ := by kernel_rfl
@[simp] theorem tab94 : tab Try.prog 94 = some ⟨1, 8, false, none, none, false, [], some [.nilFunc]⟩ := by kernel_rfl
@[simp] theorem tab95 : tab Try.prog 95 = some ⟨1, 8, false, none, none, false, [], some [.nilFunc]⟩ := by kernel_rfl
@[simp] theorem tab96 : tab Try.prog 96 = some ⟨1, 8, false, none, none, false, [], some [.nilFunc]⟩ := by kernel_rfl
@[simp] theorem tab97 : tab Try.prog 97 = some ⟨1, 8, false, none, none, false, [], some [.nilFunc]⟩ := by kernel_rfl
@[simp] theorem tab98 : tab Try.prog 98 = some ⟨1, 8, false, none, none, false, [], some [.nilFunc]⟩ := by kernel_rfl
@[simp] theorem tab99 : tab Try.prog 99 = some ⟨1, 8, false, none, none, false, [], some [.nilFunc]⟩ := by kernel_rfl
@[simp] theorem tab100 : tab Try.prog 100 = some ⟨1, 8, false, none, none, false, [], some [.nilFunc]⟩ := by kernel_rfl
@[simp] theorem tab101 : tab Try.prog 101 = some ⟨1, 8, false, none, none, false, [], some [.nilFunc]⟩ := by kernel_rfl
@[simp] theorem tab102 : tab Try.prog 102 = some ⟨1, 8, false, none, none, false, [], some [.nilFunc]⟩ := by kernel_rfl
@[simp] theorem tab103 : tab Try.prog 103 = some ⟨1, 8, false, none, none, false, [], some [.nilFunc]⟩ := by kernel_rfl
@[simp] theorem tab104 : tab Try.prog 104 = some ⟨1, 8, false, none, none, false, [], some [.nilFunc]⟩ := by kernel_rfl
@[simp] theorem tab106 : tab Try.prog 106 = some ⟨1, 8, false, none, none, false, [], some [.nilFunc]⟩ := by kernel_rfl
@[simp] theorem tab108 : tab Try.prog 108 = some ⟨1, 8, false, none, none, false, [], some [.nilFunc]⟩ := by kernel_rfl
@[simp] theorem tab109 : tab Try.prog 109 = some ⟨1, 8, false, none, none, false, [], some [.nilFunc]⟩ := by kernel_rfl
@[simp] theorem tab110 : tab Try.prog 110 = some ⟨1, 8, false, none, none, false, [], some [.nilFunc]⟩ := by kernel_rfl
@[simp] theorem tab111 : tab Try.prog 111 = some ⟨1, 24, false, some 22, none, false, [], some [.slice none 0 0]⟩ := by kernel_rfl
@[simp] theorem es111 : elemSz Try.prog 111 = some 1 := by kernel_rfl
@[simp] theorem el111 : elemTI Try.prog 111 = some ⟨1, 24, false, some 3, none, false, [], some [.slice none 0 0]⟩ := by kernel_rfl
@[simp] theorem tab112 : tab Try.prog 112 = some ⟨1, 8, false, none, none, false, [], some [.nilFunc]⟩ := by kernel_rfl
@[simp] theorem tab113 : tab Try.prog 113 = some ⟨1, 8, false, none, none, false, [], some [.nilFunc]⟩ := by kernel_rfl
@[simp] theorem tab114 : tab Try.prog 114 = some ⟨1, 8, false, none, none, false, [], some [.nilFunc]⟩ := by kernel_rfl
@[simp] theorem tab115 : tab Try.prog 115 = some ⟨1, 8, false, none, none, false, [], some [.nilFunc]⟩ := by kernel_rfl
@[simp] theorem tab116 : tab Try.prog 116 = some ⟨1, 8, false, none, none, false, [], some [.nilFunc]⟩ := by kernel_rfl
@[simp] theorem tab117 : tab Try.prog 117 = some ⟨1, 8, false, none, none, false, [], some [.nilFunc]⟩ := by kernel_rfl
@[simp] theorem tab118 : tab Try.prog 118 = some ⟨1, 8, false, none, none, false, [], some [.nilFunc]⟩ := by kernel_rfl
@[simp] theorem tab119 : tab Try.prog 119 = some ⟨1, 8, false, none, none, false, [], some [.nilFunc]⟩ := by kernel_rfl
@[simp] theorem tab121 : tab Try.prog 121 = some ⟨1, 8, false, none, none, false, [], some [.nilFunc]⟩ := by kernel_rfl
@[simp] theorem tab122 : tab Try.prog 122 = some ⟨1, 8, false, none, none, false, [], some [.nilFunc]⟩ := by kernel_rfl
@[simp] theorem tab123 : tab Try.prog 123 = some ⟨1, 8, false, none, none, false, [], some [.nilFunc]⟩ := by kernel_rfl
@[simp] theorem tab124 : tab Try.prog 124 = some ⟨1, 24, false, some 44, none, false, [], some [.slice none 0 0]⟩ := by kernel_rfl
@[simp] theorem es124 : elemSz Try.prog 124 = some 1 := by kernel_rfl
@[simp] theorem el124 : elemTI Try.prog 124 = some ⟨1, 24, false, some 50, none, false, [], some [.slice none 0 0]⟩ := by kernel_rfl
@[simp] theorem tab125 : tab Try.prog 125 = some ⟨1, 8, false, none, none, false, [], some [.pointer none]⟩ := by kernel_rfl
@[simp] theorem tab126 : tab Try.prog 126 = some ⟨1, 8, false, none, none, false, [], some [.nilFunc]⟩ := by kernel_rfl
@[simp] theorem tab127 : tab Try.prog 127 = some ⟨1, 8, false, none, some .u64, false, [], some [.int .u64 0]⟩ := by kernel_rfl
@[simp] theorem tab128 : tab Try.prog 128 = some ⟨1, 8, false, none, none, false, [], some [.nilFunc]⟩ := by kernel_rfl
@[simp] theorem tab129 : tab Try.prog 129 = some ⟨1, 8, false, none, none, false, [], some [.nilFunc]⟩ := by kernel_rfl
@[simp] theorem tab130 : tab Try.prog 130 = some ⟨1, 8, false, none, none, false, [], some [.nilFunc]⟩ := by kernel_rfl
@[simp] theorem tab131 : tab Try.prog 131 = some ⟨4, 40, true, none, none, false, [(0, 17), (1, 17), (2, 17), (3, 9)], some [.pointer none, .pointer none, .pointer none, .string ⟨#[]⟩]⟩ := by kernel_rfl
@[simp] theorem tab132 : tab Try.prog 132 = some ⟨4, 40, true, none, none, false, [(0, 17), (1, 17), (2, 17), (3, 9)], some [.pointer none, .pointer none, .pointer none, .string ⟨#[]⟩]⟩ := by kernel_rfl
@[simp] theorem tab133 : tab Try.prog 133 = some ⟨0, 0, true, none, none, false, [], some []⟩ := by kernel_rfl
@[simp] theorem tab134 : tab Try.prog 134 = some ⟨0, 0, true, none, none, false, [(0, 133)], some []⟩ := by kernel_rfl
@[simp] theorem tab135 : tab Try.prog 135 = some ⟨0, 0, true, none, none, false, [(0, 133)], some []⟩ := by kernel_rfl
@[simp] theorem tab136 : tab Try.prog 136 = some ⟨1, 4, false, none, some .u32, false, [], some [.int .u32 0]⟩ := by kernel_rfl
@[simp] theorem tab137 : tab Try.prog 137 = some ⟨1, 1, false, none, some .u8, false, [], some [.int .u8 0]⟩ := by kernel_rfl
@[simp] theorem tab138 : tab Try.prog 138 = some ⟨1, 1, false, none, some .u8, false, [], some [.int .u8 0]⟩ := by kernel_rfl
@[simp] theorem tab139 : tab Try.prog 139 = some ⟨1, 8, false, none, none, false, [], some [.nilFunc]⟩ := by kernel_rfl
@[simp] theorem tab140 : tab Try.prog 140 = some ⟨1, 8, false, none, none, false, [], some [.pointer none]⟩ := by kernel_rfl
@[simp] theorem tab141 : tab Try.prog 141 = some ⟨1, 4, false, none, some .i32, false, [], some [.int .i32 0]⟩ := by kernel_rfl
@[simp] theorem tab142 : tab Try.prog 142 = some ⟨1, 4, false, none, some .i32, false, [], some [.int .i32 0]⟩ := by kernel_rfl
@[simp] theorem tab143 : tab Try.prog 143 = some ⟨11, 48, true, none, none, false, [(0, 12), (1, 12), (2, 136), (3, 137), (4, 5), (5, 5), (6, 138), (7, 139), (8, 140), (9, 141), (10, 142)], some [.int .u64 0, .int .u64 0, .int .u32 0, .int .u8 0, .int .u8 0, .int .u8 0, .int .u8 0, .nilFunc, .pointer none, .int .i32 0, .int .i32 0]⟩ := by kernel_rfl
@[simp] theorem tab144 : tab Try.prog 144 = some ⟨11, 48, true, none, none, false, [(0, 12), (1, 12), (2, 136), (3, 137), (4, 5), (5, 5), (6, 138), (7, 139), (8, 140), (9, 141), (10, 142)], some [.int .u64 0, .int .u64 0, .int .u32 0, .int .u8 0, .int .u8 0, .int .u8 0, .int .u8 0, .nilFunc, .pointer none, .int .i32 0, .int .i32 0]⟩ := by kernel_rfl
@[simp] theorem tab145 : tab Try.prog 145 = some ⟨1, 8, false, none, none, false, [], some [.pointer none]⟩ := by kernel_rfl
theorem pd4_20 : planD (rgn Try.f4 20) = some ([], [.q ⟨some 95, .move (.tmp 14), none⟩, .q ⟨some 96, .move (.tmp 15), none⟩, .q ⟨some 97, .indexAddr 22 (.tmp 95) (.tmp 96), none⟩, .q ⟨some 98, .load 3 (.tmp 97), none⟩, .q ⟨some 99, .move (.tmp 1), none⟩, .q ⟨some 100, .move (.tmp 15), none⟩, .q ⟨some 101, .indexAddr 29 (.tmp 99) (.tmp 100), none⟩, .q ⟨some 102, .load 5 (.tmp 101), none⟩, .q ⟨some 103, .convert 5 3 (.tmp 102), none⟩, .q ⟨some 104, .binOp .rem 3 (.tmp 103) (.const (.int .i64 6)) 3, none⟩, .q ⟨some 105, .binOp .add 3 (.tmp 98) (.tmp 104) 3, none⟩, .q ⟨some 106, .indexAddr 22 (.tmp 95) (.tmp 96), none⟩, .e ⟨none, .store 3 (.tmp 106) (.tmp 105), none⟩ []]) := by kernel_rfl
theorem pd5_8 : planD (rgn Try.f5 8) = some ([some 6], [.q ⟨some 30, .load 39 (.tmp 2), none⟩, .q ⟨some 32, .load 41 (.tmp 3), none⟩, .e ⟨some 31, .call ⟨.value (.func 22), #[.tmp 30], #[39]⟩, none⟩ [⟨some 32, .load 41 (.tmp 3), none⟩], .e ⟨some 33, .call ⟨.value (.func 23), #[.tmp 32], #[41]⟩, none⟩ [⟨some 30, .load 39 (.tmp 2), none⟩], .e ⟨some 34, .call ⟨.value (.func 21), #[.tmp 31, .tmp 33], #[46, 50]⟩, none⟩ [⟨some 32, .load 41 (.tmp 3), none⟩, ⟨some 30, .load 39 (.tmp 2), none⟩], .q ⟨some 29, .move (.tmp 34), none⟩, .q ⟨some 35, .extract (.tmp 29) 0, none⟩, .q ⟨some 36, .extract (.tmp 29) 1, none⟩, .q ⟨some 37, .extract (.tmp 29) 2, none⟩, .e ⟨some 6, .alloc 46, none⟩ [⟨some 37, .extract (.tmp 29) 2, none⟩, ⟨some 36, .extract (.tmp 29) 1, none⟩, ⟨some 35, .extract (.tmp 29) 0, none⟩, ⟨some 29, .move (.tmp 34), none⟩, ⟨some 32, .load 41 (.tmp 3), none⟩, ⟨some 30, .load 39 (.tmp 2), none⟩], .e ⟨none, .store 46 (.tmp 6) (.tmp 35), none⟩ [⟨some 37, .extract (.tmp 29) 2, none⟩, ⟨some 36, .extract (.tmp 29) 1, none⟩], .e ⟨some 7, .assign (.tmp 36), none⟩ [⟨some 37, .extract (.tmp 29) 2, none⟩], .e ⟨some 8, .assign (.tmp 37), none⟩ []]) := by kernel_rfl
theorem pd5_10 : planD (rgn Try.f5 10) = some ([some 10], [.q ⟨some 41, .load 46 (.tmp 9), none⟩, .q ⟨some 42, .load 41 (.tmp 3), none⟩, .e ⟨some 43, .call ⟨.value (.func 23), #[.tmp 42], #[41]⟩, none⟩ [⟨some 41, .load 46 (.tmp 9), none⟩], .e ⟨some 44, .call ⟨.value (.func 24), #[.tmp 41, .tmp 43], #[46, 50]⟩, none⟩ [⟨some 42, .load 41 (.tmp 3), none⟩], .q ⟨some 40, .move (.tmp 44), none⟩, .q ⟨some 45, .extract (.tmp 40) 0, none⟩, .q ⟨some 46, .extract (.tmp 40) 1, none⟩, .q ⟨some 47, .extract (.tmp 40) 2, none⟩, .e ⟨some 10, .alloc 46, none⟩ [⟨some 47, .extract (.tmp 40) 2, none⟩, ⟨some 46, .extract (.tmp 40) 1, none⟩, ⟨some 45, .extract (.tmp 40) 0, none⟩, ⟨some 40, .move (.tmp 44), none⟩, ⟨some 42, .load 41 (.tmp 3), none⟩, ⟨some 41, .load 46 (.tmp 9), none⟩], .e ⟨none, .store 46 (.tmp 10) (.tmp 45), none⟩ [⟨some 47, .extract (.tmp 40) 2, none⟩, ⟨some 46, .extract (.tmp 40) 1, none⟩], .e ⟨some 11, .assign (.tmp 46), none⟩ [⟨some 47, .extract (.tmp 40) 2, none⟩], .e ⟨some 12, .assign (.tmp 47), none⟩ []]) := by kernel_rfl
theorem pd5_13 : planD (rgn Try.f5 13) = some ([], [.q ⟨some 63, .load 46 (.tmp 9), none⟩, .q ⟨some 64, .load 39 (.tmp 2), none⟩, .e ⟨some 65, .call ⟨.value (.func 22), #[.tmp 64], #[39]⟩, none⟩ [⟨some 63, .load 46 (.tmp 9), none⟩], .e ⟨some 66, .call ⟨.value (.func 25), #[.tmp 63, .tmp 65], #[46, 46]⟩, none⟩ [⟨some 64, .load 39 (.tmp 2), none⟩], .q ⟨some 67, .unOp .not 4 (.tmp 66), none⟩]) := by kernel_rfl
theorem pd5_31 : planD (rgn Try.f5 31) = some ([some 16], [.q ⟨some 110, .load 39 (.tmp 2), none⟩, .q ⟨some 112, .load 41 (.tmp 3), none⟩, .e ⟨some 111, .call ⟨.value (.func 22), #[.tmp 110], #[39]⟩, none⟩ [⟨some 112, .load 41 (.tmp 3), none⟩], .e ⟨some 113, .call ⟨.value (.func 23), #[.tmp 112], #[41]⟩, none⟩ [⟨some 110, .load 39 (.tmp 2), none⟩], .e ⟨some 114, .call ⟨.value (.func 24), #[.tmp 111, .tmp 113], #[46, 50]⟩, none⟩ [⟨some 112, .load 41 (.tmp 3), none⟩, ⟨some 110, .load 39 (.tmp 2), none⟩], .q ⟨some 109, .move (.tmp 114), none⟩, .q ⟨some 115, .extract (.tmp 109) 0, none⟩, .q ⟨some 116, .extract (.tmp 109) 1, none⟩, .q ⟨some 117, .extract (.tmp 109) 2, none⟩, .e ⟨some 16, .alloc 46, none⟩ [⟨some 117, .extract (.tmp 109) 2, none⟩, ⟨some 116, .extract (.tmp 109) 1, none⟩, ⟨some 115, .extract (.tmp 109) 0, none⟩, ⟨some 109, .move (.tmp 114), none⟩, ⟨some 112, .load 41 (.tmp 3), none⟩, ⟨some 110, .load 39 (.tmp 2), none⟩], .e ⟨none, .store 46 (.tmp 16) (.tmp 115), none⟩ [⟨some 117, .extract (.tmp 109) 2, none⟩, ⟨some 116, .extract (.tmp 109) 1, none⟩], .e ⟨some 17, .assign (.tmp 116), none⟩ [⟨some 117, .extract (.tmp 109) 2, none⟩], .e ⟨some 18, .assign (.tmp 117), none⟩ []]) := by kernel_rfl
theorem pd7_19 : planD (rgn Try.f7 19) = some ([], [.q ⟨some 51, .fieldAddr 73 (.tmp 12) 0, none⟩, .q ⟨some 52, .load 3 (.tmp 51), none⟩, .q ⟨some 53, .move (.tmp 5), none⟩, .q ⟨some 54, .move (.tmp 10), none⟩, .q ⟨some 55, .indexAddr 71 (.tmp 53) (.tmp 54), none⟩, .q ⟨some 56, .fieldAddr 73 (.tmp 55) 0, none⟩, .q ⟨some 57, .load 3 (.tmp 56), none⟩, .q ⟨some 58, .binOp .lss 3 (.tmp 52) (.tmp 57) 3, none⟩]) := by kernel_rfl
theorem pd7_22 : planD (rgn Try.f7 22) = some ([], [.q ⟨some 61, .fieldAddr 73 (.tmp 8) 0, none⟩, .q ⟨some 62, .load 3 (.tmp 61), none⟩, .q ⟨some 63, .move (.tmp 5), none⟩, .q ⟨some 64, .move (.tmp 10), none⟩, .q ⟨some 65, .indexAddr 71 (.tmp 63) (.tmp 64), none⟩, .q ⟨some 66, .fieldAddr 73 (.tmp 65) 0, none⟩, .q ⟨some 67, .load 3 (.tmp 66), none⟩, .q ⟨some 68, .binOp .add 3 (.tmp 62) (.tmp 67) 3, none⟩, .q ⟨some 69, .fieldAddr 73 (.tmp 8) 0, none⟩, .e ⟨none, .store 3 (.tmp 69) (.tmp 68), none⟩ []]) := by kernel_rfl
theorem pd7_23 : planD (rgn Try.f7 23) = some ([], [.q ⟨some 70, .fieldAddr 73 (.tmp 8) 1, none⟩, .q ⟨some 71, .load 22 (.tmp 70), none⟩, .q ⟨some 72, .move (.tmp 5), none⟩, .q ⟨some 73, .move (.tmp 10), none⟩, .q ⟨some 74, .indexAddr 71 (.tmp 72) (.tmp 73), none⟩, .q ⟨some 75, .fieldAddr 73 (.tmp 74) 1, none⟩, .q ⟨some 76, .load 22 (.tmp 75), none⟩, .e ⟨some 77, .call ⟨.builtin .append, #[.tmp 71, .tmp 76], #[22, 22]⟩, none⟩ [⟨some 75, .fieldAddr 73 (.tmp 74) 1, none⟩, ⟨some 74, .indexAddr 71 (.tmp 72) (.tmp 73), none⟩, ⟨some 73, .move (.tmp 10), none⟩, ⟨some 72, .move (.tmp 5), none⟩, ⟨some 70, .fieldAddr 73 (.tmp 8) 1, none⟩], .q ⟨some 78, .fieldAddr 73 (.tmp 8) 1, none⟩, .e ⟨none, .store 22 (.tmp 78) (.tmp 77), none⟩ []]) := by kernel_rfl
theorem pd7_24 : planD (rgn Try.f7 24) = some ([], [.q ⟨some 80, .move (.tmp 5), none⟩, .q ⟨some 81, .move (.tmp 10), none⟩, .q ⟨some 82, .slice 71 (.tmp 80) none (some (.tmp 81)) none, none⟩, .q ⟨some 84, .move (.tmp 5), none⟩, .q ⟨some 85, .move (.tmp 10), none⟩, .q ⟨some 86, .binOp .add 3 (.tmp 85) (.const (.int .i64 1)) 3, none⟩, .q ⟨some 87, .slice 71 (.tmp 84) (some (.tmp 86)) none none, none⟩, .e ⟨some 79, .buildSlice 71 0 #[], none⟩ [⟨some 87, .slice 71 (.tmp 84) (some (.tmp 86)) none none, none⟩, ⟨some 86, .binOp .add 3 (.tmp 85) (.const (.int .i64 1)) 3, none⟩, ⟨some 85, .move (.tmp 10), none⟩, ⟨some 84, .move (.tmp 5), none⟩, ⟨some 82, .slice 71 (.tmp 80) none (some (.tmp 81)) none, none⟩, ⟨some 81, .move (.tmp 10), none⟩, ⟨some 80, .move (.tmp 5), none⟩], .e ⟨some 83, .call ⟨.builtin .append, #[.tmp 79, .tmp 82], #[71, 71]⟩, none⟩ [⟨some 87, .slice 71 (.tmp 84) (some (.tmp 86)) none none, none⟩, ⟨some 86, .binOp .add 3 (.tmp 85) (.const (.int .i64 1)) 3, none⟩, ⟨some 85, .move (.tmp 10), none⟩, ⟨some 84, .move (.tmp 5), none⟩, ⟨some 81, .move (.tmp 10), none⟩, ⟨some 80, .move (.tmp 5), none⟩], .e ⟨some 88, .call ⟨.builtin .append, #[.tmp 83, .tmp 87], #[71, 71]⟩, none⟩ [⟨some 86, .binOp .add 3 (.tmp 85) (.const (.int .i64 1)) 3, none⟩, ⟨some 85, .move (.tmp 10), none⟩, ⟨some 84, .move (.tmp 5), none⟩, ⟨some 82, .slice 71 (.tmp 80) none (some (.tmp 81)) none, none⟩, ⟨some 81, .move (.tmp 10), none⟩, ⟨some 80, .move (.tmp 5), none⟩], .e ⟨some 5, .assign (.tmp 88), none⟩ []]) := by kernel_rfl
theorem pd9_14 : planD (rgn Try.f9 14) = some ([some 11], [.q ⟨some 43, .fieldAddr 76 (.tmp 9) 0, none⟩, .q ⟨some 44, .load 3 (.tmp 43), none⟩, .q ⟨some 45, .fieldAddr 76 (.tmp 10) 0, none⟩, .q ⟨some 46, .load 3 (.tmp 45), none⟩, .q ⟨some 47, .binOp .add 3 (.tmp 44) (.tmp 46) 3, none⟩, .q ⟨some 48, .fieldAddr 76 (.tmp 9) 1, none⟩, .q ⟨some 49, .load 22 (.tmp 48), none⟩, .q ⟨some 50, .fieldAddr 76 (.tmp 10) 1, none⟩, .q ⟨some 51, .load 22 (.tmp 50), none⟩, .e ⟨some 52, .buildSlice 111 2 #[(0, .tmp 49), (1, .tmp 51)], none⟩ [⟨some 50, .fieldAddr 76 (.tmp 10) 1, none⟩, ⟨some 48, .fieldAddr 76 (.tmp 9) 1, none⟩, ⟨some 47, .binOp .add 3 (.tmp 44) (.tmp 46) 3, none⟩, ⟨some 46, .load 3 (.tmp 45), none⟩, ⟨some 45, .fieldAddr 76 (.tmp 10) 0, none⟩, ⟨some 44, .load 3 (.tmp 43), none⟩, ⟨some 43, .fieldAddr 76 (.tmp 9) 0, none⟩], .e ⟨some 53, .call ⟨.value (.func 45), #[.tmp 52], #[111]⟩, none⟩ [⟨some 51, .load 22 (.tmp 50), none⟩, ⟨some 50, .fieldAddr 76 (.tmp 10) 1, none⟩, ⟨some 49, .load 22 (.tmp 48), none⟩, ⟨some 48, .fieldAddr 76 (.tmp 9) 1, none⟩, ⟨some 47, .binOp .add 3 (.tmp 44) (.tmp 46) 3, none⟩, ⟨some 46, .load 3 (.tmp 45), none⟩, ⟨some 45, .fieldAddr 76 (.tmp 10) 0, none⟩, ⟨some 44, .load 3 (.tmp 43), none⟩, ⟨some 43, .fieldAddr 76 (.tmp 9) 0, none⟩], .e ⟨some 54, .build 76 #[(0, .tmp 47), (1, .tmp 53)], none⟩ [⟨some 51, .load 22 (.tmp 50), none⟩, ⟨some 50, .fieldAddr 76 (.tmp 10) 1, none⟩, ⟨some 49, .load 22 (.tmp 48), none⟩, ⟨some 48, .fieldAddr 76 (.tmp 9) 1, none⟩, ⟨some 46, .load 3 (.tmp 45), none⟩, ⟨some 45, .fieldAddr 76 (.tmp 10) 0, none⟩, ⟨some 44, .load 3 (.tmp 43), none⟩, ⟨some 43, .fieldAddr 76 (.tmp 9) 0, none⟩], .e ⟨some 11, .alloc 76, none⟩ [⟨some 51, .load 22 (.tmp 50), none⟩, ⟨some 50, .fieldAddr 76 (.tmp 10) 1, none⟩, ⟨some 49, .load 22 (.tmp 48), none⟩, ⟨some 48, .fieldAddr 76 (.tmp 9) 1, none⟩, ⟨some 47, .binOp .add 3 (.tmp 44) (.tmp 46) 3, none⟩, ⟨some 46, .load 3 (.tmp 45), none⟩, ⟨some 45, .fieldAddr 76 (.tmp 10) 0, none⟩, ⟨some 44, .load 3 (.tmp 43), none⟩, ⟨some 43, .fieldAddr 76 (.tmp 9) 0, none⟩], .e ⟨none, .store 76 (.tmp 11) (.tmp 54), none⟩ []]) := by kernel_rfl
theorem pd10_6 : planD (rgn Try.f10 6) = some ([], [.q ⟨some 17, .move (.tmp 0), none⟩, .q ⟨some 18, .move (.tmp 5), none⟩, .q ⟨some 19, .indexAddr 22 (.tmp 17) (.tmp 18), none⟩, .q ⟨some 20, .load 3 (.tmp 19), none⟩, .q ⟨some 21, .move (.tmp 1), none⟩, .q ⟨some 22, .move (.tmp 5), none⟩, .q ⟨some 23, .indexAddr 22 (.tmp 21) (.tmp 22), none⟩, .q ⟨some 24, .load 3 (.tmp 23), none⟩, .q ⟨some 25, .binOp .neq 3 (.tmp 20) (.tmp 24) 3, none⟩]) := by kernel_rfl
theorem pd14_6 : planD (rgn Try.f14 6) = some ([], [.q ⟨some 16, .move (.tmp 0), none⟩, .q ⟨some 17, .move (.tmp 5), none⟩, .q ⟨some 18, .indexAddr 22 (.tmp 16) (.tmp 17), none⟩, .q ⟨some 19, .load 3 (.tmp 18), none⟩, .q ⟨some 20, .move (.tmp 1), none⟩, .q ⟨some 21, .move (.tmp 5), none⟩, .q ⟨some 22, .indexAddr 22 (.tmp 20) (.tmp 21), none⟩, .q ⟨some 23, .load 3 (.tmp 22), none⟩, .q ⟨some 24, .binOp .neq 3 (.tmp 19) (.tmp 23) 3, none⟩]) := by kernel_rfl
theorem pd21_3 : planD (rgn Try.f21 3) = some ([some 7], [.q ⟨some 19, .load 46 (.tmp 2), none⟩, .q ⟨some 21, .load 50 (.tmp 3), none⟩, .e ⟨some 20, .call ⟨.value (.func 58), #[.tmp 19], #[46]⟩, none⟩ [⟨some 21, .load 50 (.tmp 3), none⟩], .e ⟨some 22, .call ⟨.value (.func 57), #[.tmp 20, .tmp 21], #[46, 50]⟩, none⟩ [⟨some 19, .load 46 (.tmp 2), none⟩], .q ⟨some 18, .move (.tmp 22), none⟩, .q ⟨some 23, .extract (.tmp 18) 0, none⟩, .q ⟨some 24, .extract (.tmp 18) 1, none⟩, .e ⟨some 7, .alloc 46, none⟩ [⟨some 24, .extract (.tmp 18) 1, none⟩, ⟨some 23, .extract (.tmp 18) 0, none⟩, ⟨some 18, .move (.tmp 22), none⟩, ⟨some 21, .load 50 (.tmp 3), none⟩, ⟨some 19, .load 46 (.tmp 2), none⟩], .e ⟨none, .store 46 (.tmp 7) (.tmp 23), none⟩ [⟨some 24, .extract (.tmp 18) 1, none⟩], .e ⟨some 8, .assign (.tmp 24), none⟩ []]) := by kernel_rfl
theorem pd26_6 : planD (rgn Try.f26 6) = some ([], [.q ⟨some 17, .move (.tmp 0), none⟩, .q ⟨some 18, .move (.tmp 5), none⟩, .q ⟨some 19, .indexAddr 44 (.tmp 17) (.tmp 18), none⟩, .q ⟨some 20, .load 50 (.tmp 19), none⟩, .q ⟨some 21, .move (.tmp 1), none⟩, .q ⟨some 22, .move (.tmp 5), none⟩, .q ⟨some 23, .indexAddr 44 (.tmp 21) (.tmp 22), none⟩, .q ⟨some 24, .load 50 (.tmp 23), none⟩, .e ⟨some 25, .call ⟨.value (.func 62), #[.tmp 20, .tmp 24], #[50, 50]⟩, none⟩ [⟨some 23, .indexAddr 44 (.tmp 21) (.tmp 22), none⟩, ⟨some 22, .move (.tmp 5), none⟩, ⟨some 21, .move (.tmp 1), none⟩, ⟨some 19, .indexAddr 44 (.tmp 17) (.tmp 18), none⟩, ⟨some 18, .move (.tmp 5), none⟩, ⟨some 17, .move (.tmp 0), none⟩], .q ⟨some 26, .unOp .not 4 (.tmp 25), none⟩]) := by kernel_rfl
theorem pd30_4 : planD (rgn Try.f30 4) = some ([], [.q ⟨some 12, .move (.tmp 0), none⟩, .q ⟨some 13, .move (.tmp 5), none⟩, .q ⟨some 14, .indexAddr 44 (.tmp 12) (.tmp 13), none⟩, .q ⟨some 15, .fieldAddr 50 (.tmp 14) 0, none⟩, .q ⟨some 16, .load 9 (.tmp 15), none⟩, .q ⟨some 17, .move (.tmp 1), none⟩, .e ⟨some 18, .call ⟨.value (.func 63), #[.tmp 17], #[3]⟩, none⟩ [⟨some 16, .load 9 (.tmp 15), none⟩, ⟨some 15, .fieldAddr 50 (.tmp 14) 0, none⟩, ⟨some 14, .indexAddr 44 (.tmp 12) (.tmp 13), none⟩, ⟨some 13, .move (.tmp 5), none⟩, ⟨some 12, .move (.tmp 0), none⟩], .q ⟨some 19, .binOp .neq 9 (.tmp 16) (.tmp 18) 9, none⟩]) := by kernel_rfl
theorem pd30_7 : planD (rgn Try.f30 7) = some ([], [.q ⟨some 22, .move (.tmp 0), none⟩, .q ⟨some 23, .move (.tmp 5), none⟩, .q ⟨some 24, .indexAddr 44 (.tmp 22) (.tmp 23), none⟩, .q ⟨some 25, .fieldAddr 50 (.tmp 24) 1, none⟩, .q ⟨some 26, .load 9 (.tmp 25), none⟩, .q ⟨some 27, .move (.tmp 1), none⟩, .e ⟨some 28, .call ⟨.value (.func 63), #[.tmp 27], #[3]⟩, none⟩ [⟨some 26, .load 9 (.tmp 25), none⟩, ⟨some 25, .fieldAddr 50 (.tmp 24) 1, none⟩, ⟨some 24, .indexAddr 44 (.tmp 22) (.tmp 23), none⟩, ⟨some 23, .move (.tmp 5), none⟩, ⟨some 22, .move (.tmp 0), none⟩], .q ⟨some 29, .binOp .neq 9 (.tmp 26) (.tmp 28) 9, none⟩]) := by kernel_rfl
theorem pd33_6 : planD (rgn Try.f33 6) = some ([], [.q ⟨some 16, .move (.tmp 0), none⟩, .q ⟨some 17, .move (.tmp 5), none⟩, .q ⟨some 18, .indexAddr 44 (.tmp 16) (.tmp 17), none⟩, .q ⟨some 19, .load 50 (.tmp 18), none⟩, .q ⟨some 20, .move (.tmp 1), none⟩, .q ⟨some 21, .move (.tmp 5), none⟩, .q ⟨some 22, .indexAddr 44 (.tmp 20) (.tmp 21), none⟩, .q ⟨some 23, .load 50 (.tmp 22), none⟩, .q ⟨some 24, .binOp .neq 50 (.tmp 19) (.tmp 23) 50, none⟩]) := by kernel_rfl
theorem pd35_3 : planD (rgn Try.f35 3) = some ([], [.q ⟨some 8, .fieldAddr 46 (.tmp 1) 2, none⟩, .q ⟨some 9, .load 44 (.tmp 8), none⟩, .q ⟨some 11, .fieldAddr 46 (.tmp 1) 3, none⟩, .q ⟨some 12, .load 44 (.tmp 11), none⟩, .e ⟨some 10, .call ⟨.value (.func 68), #[.tmp 9], #[44]⟩, none⟩ [⟨some 12, .load 44 (.tmp 11), none⟩, ⟨some 11, .fieldAddr 46 (.tmp 1) 3, none⟩, ⟨some 8, .fieldAddr 46 (.tmp 1) 2, none⟩], .e ⟨some 13, .call ⟨.value (.func 68), #[.tmp 12], #[44]⟩, none⟩ [⟨some 11, .fieldAddr 46 (.tmp 1) 3, none⟩, ⟨some 9, .load 44 (.tmp 8), none⟩, ⟨some 8, .fieldAddr 46 (.tmp 1) 2, none⟩], .e ⟨some 2, .assign (.tmp 10), none⟩ [⟨some 12, .load 44 (.tmp 11), none⟩, ⟨some 11, .fieldAddr 46 (.tmp 1) 3, none⟩], .e ⟨some 3, .assign (.tmp 13), none⟩ [], .e ⟨some 4, .assign (.const (.bool true)), none⟩ []]) := by kernel_rfl
theorem pd43_5 : planD (rgn Try.f43 5) = some ([], [.q ⟨some 13, .fieldAddr 76 (.tmp 4) 0, none⟩, .q ⟨some 14, .load 3 (.tmp 13), none⟩, .q ⟨some 15, .load 74 (.tmp 0), none⟩, .q ⟨some 16, .move (.tmp 2), none⟩, .q ⟨some 17, .indexAddr 74 (.tmp 15) (.tmp 16), none⟩, .q ⟨some 18, .fieldAddr 76 (.tmp 17) 0, none⟩, .q ⟨some 19, .load 3 (.tmp 18), none⟩, .q ⟨some 20, .binOp .lss 3 (.tmp 14) (.tmp 19) 3, none⟩]) := by kernel_rfl
theorem pd44_5 : planD (rgn Try.f44 5) = some ([], [.q ⟨some 20, .move (.tmp 0), none⟩, .q ⟨some 21, .move (.tmp 1), none⟩, .q ⟨some 22, .slice 74 (.tmp 20) none (some (.tmp 21)) none, none⟩, .q ⟨some 23, .move (.tmp 0), none⟩, .q ⟨some 24, .move (.tmp 2), none⟩, .q ⟨some 25, .slice 74 (.tmp 23) (some (.tmp 24)) none none, none⟩, .e ⟨some 26, .call ⟨.builtin .append, #[.tmp 22, .tmp 25], #[74, 74]⟩, none⟩ [⟨some 24, .move (.tmp 2), none⟩, ⟨some 23, .move (.tmp 0), none⟩, ⟨some 21, .move (.tmp 1), none⟩, ⟨some 20, .move (.tmp 0), none⟩], .e ⟨some 0, .assign (.tmp 26), none⟩ []]) := by kernel_rfl
theorem pd57_3 : planD (rgn Try.f57 3) = some ([], [.q ⟨some 15, .fieldAddr 46 (.tmp 2) 3, none⟩, .q ⟨some 16, .load 44 (.tmp 15), none⟩, .q ⟨some 17, .move (.tmp 6), none⟩, .q ⟨some 19, .load 50 (.tmp 3), none⟩, .e ⟨some 18, .call ⟨.value (.func 89), #[.tmp 16, .tmp 17], #[44, 3]⟩, none⟩ [⟨some 19, .load 50 (.tmp 3), none⟩, ⟨some 15, .fieldAddr 46 (.tmp 2) 3, none⟩], .e ⟨some 20, .call ⟨.value (.func 88), #[.tmp 18, .tmp 19], #[44, 50]⟩, none⟩ [⟨some 17, .move (.tmp 6), none⟩, ⟨some 16, .load 44 (.tmp 15), none⟩, ⟨some 15, .fieldAddr 46 (.tmp 2) 3, none⟩], .q ⟨some 21, .fieldAddr 46 (.tmp 2) 3, none⟩, .e ⟨none, .store 44 (.tmp 21) (.tmp 20), none⟩ []]) := by kernel_rfl
theorem pd64_12 : planD (rgn Try.f64 12) = some ([], [.q ⟨some 42, .fieldAddr 46 (.tmp 4) 2, none⟩, .q ⟨some 43, .load 44 (.tmp 42), none⟩, .q ⟨some 44, .move (.tmp 0), none⟩, .e ⟨some 45, .call ⟨.value (.func 65), #[.tmp 44], #[81]⟩, none⟩ [⟨some 43, .load 44 (.tmp 42), none⟩, ⟨some 42, .fieldAddr 46 (.tmp 4) 2, none⟩], .e ⟨some 46, .buildSlice 44 1 #[(0, .tmp 45)], none⟩ [⟨some 44, .move (.tmp 0), none⟩, ⟨some 43, .load 44 (.tmp 42), none⟩, ⟨some 42, .fieldAddr 46 (.tmp 4) 2, none⟩], .e ⟨some 47, .call ⟨.builtin .append, #[.tmp 43, .tmp 46], #[44, 44]⟩, none⟩ [⟨some 44, .move (.tmp 0), none⟩, ⟨some 42, .fieldAddr 46 (.tmp 4) 2, none⟩], .q ⟨some 48, .fieldAddr 46 (.tmp 4) 2, none⟩, .e ⟨none, .store 44 (.tmp 48) (.tmp 47), none⟩ []]) := by kernel_rfl
theorem pd66_7 : planD (rgn Try.f66 7) = some ([], [.q ⟨some 28, .load 46 (.tmp 7), none⟩, .q ⟨some 29, .fieldAddr 50 (.tmp 8) 1, none⟩, .q ⟨some 30, .load 9 (.tmp 29), none⟩, .e ⟨none, .store 46 (.tmp 4) (.tmp 28), none⟩ [⟨some 30, .load 9 (.tmp 29), none⟩, ⟨some 29, .fieldAddr 50 (.tmp 8) 1, none⟩], .e ⟨some 5, .assign (.tmp 30), none⟩ [], .e ⟨some 6, .assign (.const (.bool true)), none⟩ []]) := by kernel_rfl
theorem pd67_1 : planD (rgn Try.f67 1) = some ([], [.q ⟨some 3, .fieldAddr 46 (.tmp 1) 2, none⟩, .q ⟨some 4, .load 44 (.tmp 3), none⟩, .q ⟨some 6, .fieldAddr 46 (.tmp 1) 3, none⟩, .q ⟨some 7, .load 44 (.tmp 6), none⟩, .e ⟨some 5, .call ⟨.value (.func 97), #[.tmp 4], #[44]⟩, none⟩ [⟨some 7, .load 44 (.tmp 6), none⟩, ⟨some 6, .fieldAddr 46 (.tmp 1) 3, none⟩, ⟨some 3, .fieldAddr 46 (.tmp 1) 2, none⟩], .q ⟨some 9, .fieldAddr 46 (.tmp 1) 2, none⟩, .e ⟨some 8, .call ⟨.value (.func 97), #[.tmp 7], #[44]⟩, none⟩ [⟨some 9, .fieldAddr 46 (.tmp 1) 2, none⟩, ⟨some 6, .fieldAddr 46 (.tmp 1) 3, none⟩, ⟨some 4, .load 44 (.tmp 3), none⟩, ⟨some 3, .fieldAddr 46 (.tmp 1) 2, none⟩], .e ⟨none, .store 44 (.tmp 9) (.tmp 5), none⟩ [], .q ⟨some 10, .fieldAddr 46 (.tmp 1) 3, none⟩, .e ⟨none, .store 44 (.tmp 10) (.tmp 8), none⟩ []]) := by kernel_rfl
theorem pd74_4 : planD (rgn Try.f74 4) = some ([], [.q ⟨some 22, .fieldAddr 46 (.tmp 2) 3, none⟩, .q ⟨some 23, .load 44 (.tmp 22), none⟩, .q ⟨some 24, .move (.tmp 7), none⟩, .q ⟨some 26, .load 50 (.tmp 8), none⟩, .e ⟨some 25, .call ⟨.value (.func 89), #[.tmp 23, .tmp 24], #[44, 3]⟩, none⟩ [⟨some 26, .load 50 (.tmp 8), none⟩, ⟨some 22, .fieldAddr 46 (.tmp 2) 3, none⟩], .e ⟨some 27, .call ⟨.value (.func 88), #[.tmp 25, .tmp 26], #[44, 50]⟩, none⟩ [⟨some 24, .move (.tmp 7), none⟩, ⟨some 23, .load 44 (.tmp 22), none⟩, ⟨some 22, .fieldAddr 46 (.tmp 2) 3, none⟩], .q ⟨some 28, .fieldAddr 46 (.tmp 2) 3, none⟩, .e ⟨none, .store 44 (.tmp 28) (.tmp 27), none⟩ []]) := by kernel_rfl
theorem pd74_5 : planD (rgn Try.f74 5) = some ([], [.q ⟨some 29, .load 46 (.tmp 2), none⟩, .q ⟨some 30, .fieldAddr 50 (.tmp 8) 1, none⟩, .q ⟨some 31, .load 9 (.tmp 30), none⟩, .e ⟨none, .store 46 (.tmp 4) (.tmp 29), none⟩ [⟨some 31, .load 9 (.tmp 30), none⟩, ⟨some 30, .fieldAddr 50 (.tmp 8) 1, none⟩], .e ⟨some 5, .assign (.tmp 31), none⟩ [], .e ⟨some 6, .assign (.const (.bool true)), none⟩ []]) := by kernel_rfl
theorem pd74_13 : planD (rgn Try.f74 13) = some ([], [.q ⟨some 59, .load 46 (.tmp 2), none⟩, .q ⟨some 60, .fieldAddr 50 (.tmp 10) 1, none⟩, .q ⟨some 61, .load 9 (.tmp 60), none⟩, .e ⟨none, .store 46 (.tmp 4) (.tmp 59), none⟩ [⟨some 61, .load 9 (.tmp 60), none⟩, ⟨some 60, .fieldAddr 50 (.tmp 10) 1, none⟩], .e ⟨some 5, .assign (.tmp 61), none⟩ [], .e ⟨some 6, .assign (.const (.bool true)), none⟩ []]) := by kernel_rfl
theorem pd84_2 : planD (rgn Try.f84 2) = some ([], [.q ⟨some 4, .move (.tmp 0), none⟩, .q ⟨some 5, .nilCheck (.tmp 4), none⟩, .q ⟨some 6, .fieldAddr 84 (.tmp 5) 1, none⟩, .q ⟨some 7, .load 3 (.tmp 6), none⟩, .q ⟨some 8, .move (.tmp 0), none⟩, .q ⟨some 9, .nilCheck (.tmp 8), none⟩, .q ⟨some 10, .fieldAddr 84 (.tmp 9) 0, none⟩, .q ⟨some 11, .load 29 (.tmp 10), none⟩, .q ⟨some 12, .call ⟨.builtin .len, #[.tmp 11], #[29]⟩, none⟩, .q ⟨some 13, .binOp .lss 3 (.tmp 7) (.tmp 12) 3, none⟩]) := by kernel_rfl
theorem pd84_3 : planD (rgn Try.f84 3) = some ([], [.q ⟨some 14, .move (.tmp 0), none⟩, .q ⟨some 15, .nilCheck (.tmp 14), none⟩, .q ⟨some 16, .fieldAddr 84 (.tmp 15) 0, none⟩, .q ⟨some 17, .load 29 (.tmp 16), none⟩, .q ⟨some 18, .move (.tmp 0), none⟩, .q ⟨some 19, .nilCheck (.tmp 18), none⟩, .q ⟨some 20, .fieldAddr 84 (.tmp 19) 1, none⟩, .q ⟨some 21, .load 3 (.tmp 20), none⟩, .q ⟨some 22, .indexAddr 29 (.tmp 17) (.tmp 21), none⟩, .q ⟨some 23, .load 5 (.tmp 22), none⟩, .q ⟨some 24, .convert 5 3 (.tmp 23), none⟩, .e ⟨some 3, .assign (.tmp 24), none⟩ []]) := by kernel_rfl
theorem pd84_6 : planD (rgn Try.f84 6) = some ([], [.q ⟨some 44, .move (.tmp 0), none⟩, .q ⟨some 45, .nilCheck (.tmp 44), none⟩, .q ⟨some 46, .fieldAddr 84 (.tmp 45) 1, none⟩, .q ⟨some 47, .load 3 (.tmp 46), none⟩, .q ⟨some 48, .move (.tmp 0), none⟩, .q ⟨some 49, .nilCheck (.tmp 48), none⟩, .q ⟨some 50, .fieldAddr 84 (.tmp 49) 0, none⟩, .q ⟨some 51, .load 29 (.tmp 50), none⟩, .q ⟨some 52, .call ⟨.builtin .len, #[.tmp 51], #[29]⟩, none⟩, .q ⟨some 53, .binOp .leq 3 (.tmp 47) (.tmp 52) 3, none⟩]) := by kernel_rfl
theorem pd87_4 : planD (rgn Try.f87 4) = some ([], [.q ⟨some 14, .load 50 (.tmp 6), none⟩, .e ⟨some 15, .call ⟨.value (.func 56), #[.tmp 14], #[50]⟩, none⟩ [], .q ⟨some 16, .unOp .not 4 (.tmp 15), none⟩, .q ⟨some 17, .move (.tmp 16), none⟩, .q ⟨some 18, .move (.tmp 0), some (17, false)⟩, .q ⟨some 19, .move (.tmp 5), some (17, false)⟩, .q ⟨some 20, .slice 44 (.tmp 18) none (some (.tmp 19)) none, some (17, false)⟩, .q ⟨some 21, .fieldAddr 50 (.tmp 6) 0, some (17, false)⟩, .q ⟨some 22, .load 9 (.tmp 21), some (17, false)⟩, .e ⟨some 23, .call ⟨.value (.func 85), #[.tmp 20, .tmp 22], #[44, 9]⟩, some (17, false)⟩ [⟨some 21, .fieldAddr 50 (.tmp 6) 0, some (17, false)⟩, ⟨some 19, .move (.tmp 5), some (17, false)⟩, ⟨some 18, .move (.tmp 0), some (17, false)⟩, ⟨some 16, .unOp .not 4 (.tmp 15), none⟩, ⟨some 14, .load 50 (.tmp 6), none⟩], .q ⟨some 24, .binOp .geq 3 (.tmp 23) (.const (.int .i64 0)) 3, some (17, false)⟩, .q ⟨some 25, .pick (.tmp 17) (.const (.bool true)) (.tmp 24), none⟩]) := by kernel_rfl
theorem pd89_1 : planD (rgn Try.f89 1) = some ([], [.q ⟨some 6, .move (.tmp 0), none⟩, .q ⟨some 7, .move (.tmp 1), none⟩, .q ⟨some 8, .slice 44 (.tmp 6) none (some (.tmp 7)) none, none⟩, .q ⟨some 10, .move (.tmp 0), none⟩, .q ⟨some 11, .move (.tmp 1), none⟩, .q ⟨some 12, .binOp .add 3 (.tmp 11) (.const (.int .i64 1)) 3, none⟩, .q ⟨some 13, .slice 44 (.tmp 10) (some (.tmp 12)) none none, none⟩, .e ⟨some 5, .buildSlice 44 0 #[], none⟩ [⟨some 13, .slice 44 (.tmp 10) (some (.tmp 12)) none none, none⟩, ⟨some 12, .binOp .add 3 (.tmp 11) (.const (.int .i64 1)) 3, none⟩, ⟨some 11, .move (.tmp 1), none⟩, ⟨some 10, .move (.tmp 0), none⟩, ⟨some 8, .slice 44 (.tmp 6) none (some (.tmp 7)) none, none⟩, ⟨some 7, .move (.tmp 1), none⟩, ⟨some 6, .move (.tmp 0), none⟩], .e ⟨some 9, .call ⟨.builtin .append, #[.tmp 5, .tmp 8], #[44, 44]⟩, none⟩ [⟨some 13, .slice 44 (.tmp 10) (some (.tmp 12)) none none, none⟩, ⟨some 12, .binOp .add 3 (.tmp 11) (.const (.int .i64 1)) 3, none⟩, ⟨some 11, .move (.tmp 1), none⟩, ⟨some 10, .move (.tmp 0), none⟩, ⟨some 7, .move (.tmp 1), none⟩, ⟨some 6, .move (.tmp 0), none⟩], .e ⟨some 14, .call ⟨.builtin .append, #[.tmp 9, .tmp 13], #[44, 44]⟩, none⟩ [⟨some 12, .binOp .add 3 (.tmp 11) (.const (.int .i64 1)) 3, none⟩, ⟨some 11, .move (.tmp 1), none⟩, ⟨some 10, .move (.tmp 0), none⟩, ⟨some 8, .slice 44 (.tmp 6) none (some (.tmp 7)) none, none⟩, ⟨some 7, .move (.tmp 1), none⟩, ⟨some 6, .move (.tmp 0), none⟩], .e ⟨some 4, .assign (.tmp 14), none⟩ []]) := by kernel_rfl
theorem pd90_2 : planD (rgn Try.f90 2) = some ([], [.q ⟨some 10, .move (.tmp 4), none⟩, .q ⟨some 11, .binOp .gtr 3 (.tmp 10) (.const (.int .i64 0)) 3, none⟩, .q ⟨some 12, .move (.tmp 11), none⟩, .q ⟨some 13, .move (.tmp 4), some (12, true)⟩, .q ⟨some 14, .binOp .gtr 3 (.tmp 13) (.const (.int .i64 60)) 3, some (12, true)⟩, .q ⟨some 15, .move (.tmp 14), some (12, true)⟩, .q ⟨some 16, .fieldAddr 46 (.tmp 1) 3, some (15, false)⟩, .q ⟨some 17, .load 44 (.tmp 16), some (15, false)⟩, .q ⟨some 19, .fieldAddr 46 (.tmp 1) 1, some (15, false)⟩, .q ⟨some 20, .load 3 (.tmp 19), some (15, false)⟩, .e ⟨some 18, .call ⟨.value (.func 105), #[.tmp 17], #[44]⟩, some (15, false)⟩ [⟨some 20, .load 3 (.tmp 19), some (15, false)⟩, ⟨some 19, .fieldAddr 46 (.tmp 1) 1, some (15, false)⟩, ⟨some 16, .fieldAddr 46 (.tmp 1) 3, some (15, false)⟩, ⟨some 14, .binOp .gtr 3 (.tmp 13) (.const (.int .i64 60)) 3, some (12, true)⟩, ⟨some 13, .move (.tmp 4), some (12, true)⟩, ⟨some 12, .move (.tmp 11), none⟩, ⟨some 11, .binOp .gtr 3 (.tmp 10) (.const (.int .i64 0)) 3, none⟩, ⟨some 10, .move (.tmp 4), none⟩], .q ⟨some 21, .binOp .gtr 3 (.tmp 18) (.tmp 20) 3, some (15, false)⟩, .q ⟨some 22, .pick (.tmp 15) (.const (.bool true)) (.tmp 21), some (12, true)⟩, .q ⟨some 23, .pick (.tmp 12) (.tmp 22) (.const (.bool false)), none⟩]) := by kernel_rfl
theorem pd90_4 : planD (rgn Try.f90 4) = some ([], [.q ⟨some 26, .fieldAddr 46 (.tmp 1) 2, none⟩, .q ⟨some 27, .load 44 (.tmp 26), none⟩, .q ⟨some 28, .fieldAddr 46 (.tmp 1) 3, none⟩, .q ⟨some 29, .load 44 (.tmp 28), none⟩, .q ⟨some 30, .move (.tmp 4), none⟩, .q ⟨some 31, .binOp .sub 3 (.tmp 30) (.const (.int .i64 1)) 3, none⟩, .q ⟨some 32, .indexAddr 44 (.tmp 29) (.tmp 31), none⟩, .q ⟨some 33, .load 50 (.tmp 32), none⟩, .e ⟨some 34, .call ⟨.value (.func 88), #[.tmp 27, .tmp 33], #[44, 50]⟩, none⟩ [⟨some 32, .indexAddr 44 (.tmp 29) (.tmp 31), none⟩, ⟨some 31, .binOp .sub 3 (.tmp 30) (.const (.int .i64 1)) 3, none⟩, ⟨some 30, .move (.tmp 4), none⟩, ⟨some 29, .load 44 (.tmp 28), none⟩, ⟨some 28, .fieldAddr 46 (.tmp 1) 3, none⟩, ⟨some 26, .fieldAddr 46 (.tmp 1) 2, none⟩], .q ⟨some 35, .fieldAddr 46 (.tmp 1) 2, none⟩, .e ⟨none, .store 44 (.tmp 35) (.tmp 34), none⟩ []]) := by kernel_rfl
theorem pd90_8 : planD (rgn Try.f90 8) = some ([], [.q ⟨some 45, .move (.tmp 6), none⟩, .q ⟨some 46, .binOp .gtr 3 (.tmp 45) (.const (.int .i64 0)) 3, none⟩, .q ⟨some 47, .move (.tmp 46), none⟩, .q ⟨some 48, .move (.tmp 6), some (47, true)⟩, .q ⟨some 49, .binOp .gtr 3 (.tmp 48) (.const (.int .i64 60)) 3, some (47, true)⟩, .q ⟨some 50, .move (.tmp 49), some (47, true)⟩, .q ⟨some 51, .fieldAddr 46 (.tmp 1) 2, some (50, false)⟩, .q ⟨some 52, .load 44 (.tmp 51), some (50, false)⟩, .q ⟨some 54, .fieldAddr 46 (.tmp 1) 0, some (50, false)⟩, .q ⟨some 55, .load 3 (.tmp 54), some (50, false)⟩, .e ⟨some 53, .call ⟨.value (.func 105), #[.tmp 52], #[44]⟩, some (50, false)⟩ [⟨some 55, .load 3 (.tmp 54), some (50, false)⟩, ⟨some 54, .fieldAddr 46 (.tmp 1) 0, some (50, false)⟩, ⟨some 51, .fieldAddr 46 (.tmp 1) 2, some (50, false)⟩, ⟨some 49, .binOp .gtr 3 (.tmp 48) (.const (.int .i64 60)) 3, some (47, true)⟩, ⟨some 48, .move (.tmp 6), some (47, true)⟩, ⟨some 47, .move (.tmp 46), none⟩, ⟨some 46, .binOp .gtr 3 (.tmp 45) (.const (.int .i64 0)) 3, none⟩, ⟨some 45, .move (.tmp 6), none⟩], .q ⟨some 56, .binOp .gtr 3 (.tmp 53) (.tmp 55) 3, some (50, false)⟩, .q ⟨some 57, .pick (.tmp 50) (.const (.bool true)) (.tmp 56), some (47, true)⟩, .q ⟨some 58, .pick (.tmp 47) (.tmp 57) (.const (.bool false)), none⟩]) := by kernel_rfl
theorem pd93_2 : planD (rgn Try.f93 2) = some ([], [.q ⟨some 6, .move (.tmp 0), none⟩, .q ⟨some 7, .nilCheck (.tmp 6), none⟩, .q ⟨some 8, .fieldAddr 46 (.tmp 7) 3, none⟩, .q ⟨some 9, .load 44 (.tmp 8), none⟩, .q ⟨some 10, .move (.tmp 0), none⟩, .q ⟨some 11, .nilCheck (.tmp 10), none⟩, .q ⟨some 12, .fieldAddr 46 (.tmp 11) 1, none⟩, .q ⟨some 13, .load 3 (.tmp 12), none⟩, .e ⟨some 14, .call ⟨.value (.func 71), #[.tmp 9, .tmp 13], #[44, 3]⟩, none⟩ [⟨some 12, .fieldAddr 46 (.tmp 11) 1, none⟩, ⟨some 11, .nilCheck (.tmp 10), none⟩, ⟨some 10, .move (.tmp 0), none⟩, ⟨some 8, .fieldAddr 46 (.tmp 7) 3, none⟩, ⟨some 7, .nilCheck (.tmp 6), none⟩, ⟨some 6, .move (.tmp 0), none⟩], .q ⟨some 15, .unOp .not 4 (.tmp 14), none⟩]) := by kernel_rfl
theorem pd93_4 : planD (rgn Try.f93 4) = some ([], [.q ⟨some 22, .move (.tmp 0), none⟩, .q ⟨some 23, .move (.tmp 0), none⟩, .q ⟨some 24, .nilCheck (.tmp 23), none⟩, .q ⟨some 25, .fieldAddr 46 (.tmp 24) 2, none⟩, .q ⟨some 26, .load 44 (.tmp 25), none⟩, .q ⟨some 27, .move (.tmp 0), none⟩, .q ⟨some 28, .nilCheck (.tmp 27), none⟩, .q ⟨some 29, .fieldAddr 46 (.tmp 28) 3, none⟩, .q ⟨some 30, .load 44 (.tmp 29), none⟩, .q ⟨some 31, .move (.tmp 4), none⟩, .q ⟨some 32, .indexAddr 44 (.tmp 30) (.tmp 31), none⟩, .q ⟨some 33, .load 50 (.tmp 32), none⟩, .e ⟨some 34, .call ⟨.value (.func 92), #[.tmp 26, .tmp 33], #[44, 50]⟩, none⟩ [⟨some 32, .indexAddr 44 (.tmp 30) (.tmp 31), none⟩, ⟨some 31, .move (.tmp 4), none⟩, ⟨some 30, .load 44 (.tmp 29), none⟩, ⟨some 29, .fieldAddr 46 (.tmp 28) 3, none⟩, ⟨some 28, .nilCheck (.tmp 27), none⟩, ⟨some 27, .move (.tmp 0), none⟩, ⟨some 25, .fieldAddr 46 (.tmp 24) 2, none⟩, ⟨some 24, .nilCheck (.tmp 23), none⟩, ⟨some 23, .move (.tmp 0), none⟩, ⟨some 22, .move (.tmp 0), none⟩], .q ⟨some 35, .nilCheck (.tmp 22), none⟩, .q ⟨some 36, .fieldAddr 46 (.tmp 35) 2, none⟩, .e ⟨none, .store 44 (.tmp 36) (.tmp 34), none⟩ [⟨some 35, .nilCheck (.tmp 22), none⟩]]) := by kernel_rfl
theorem pd93_6 : planD (rgn Try.f93 6) = some ([], [.q ⟨some 46, .move (.tmp 0), none⟩, .q ⟨some 47, .nilCheck (.tmp 46), none⟩, .q ⟨some 48, .fieldAddr 46 (.tmp 47) 2, none⟩, .q ⟨some 49, .load 44 (.tmp 48), none⟩, .q ⟨some 50, .move (.tmp 0), none⟩, .q ⟨some 51, .nilCheck (.tmp 50), none⟩, .q ⟨some 52, .fieldAddr 46 (.tmp 51) 0, none⟩, .q ⟨some 53, .load 3 (.tmp 52), none⟩, .e ⟨some 54, .call ⟨.value (.func 71), #[.tmp 49, .tmp 53], #[44, 3]⟩, none⟩ [⟨some 52, .fieldAddr 46 (.tmp 51) 0, none⟩, ⟨some 51, .nilCheck (.tmp 50), none⟩, ⟨some 50, .move (.tmp 0), none⟩, ⟨some 48, .fieldAddr 46 (.tmp 47) 2, none⟩, ⟨some 47, .nilCheck (.tmp 46), none⟩, ⟨some 46, .move (.tmp 0), none⟩], .q ⟨some 55, .unOp .not 4 (.tmp 54), none⟩]) := by kernel_rfl
theorem pd102_5 : planD (rgn Try.f102 5) = some ([], [.q ⟨some 20, .move (.tmp 0), none⟩, .q ⟨some 21, .move (.tmp 1), none⟩, .q ⟨some 22, .slice 44 (.tmp 20) none (some (.tmp 21)) none, none⟩, .q ⟨some 23, .move (.tmp 0), none⟩, .q ⟨some 24, .move (.tmp 2), none⟩, .q ⟨some 25, .slice 44 (.tmp 23) (some (.tmp 24)) none none, none⟩, .e ⟨some 26, .call ⟨.builtin .append, #[.tmp 22, .tmp 25], #[44, 44]⟩, none⟩ [⟨some 24, .move (.tmp 2), none⟩, ⟨some 23, .move (.tmp 0), none⟩, ⟨some 21, .move (.tmp 1), none⟩, ⟨some 20, .move (.tmp 0), none⟩], .e ⟨some 0, .assign (.tmp 26), none⟩ []]) := by kernel_rfl
end Go.Proofs.Ytckjogpdnkocbaa.Den
namespace Go.Proofs.Ytckjogpdnkocbaa.Den
open Go.Proofs
/-- Whose results are the caller's own. -/
def ownsL : List Nat := [
    8,
    9, 44,
    7,
    1]
/-- To whom own rows are handed over. -/
def refsL : List Nat := [
    11,
    44,
    80,
    1]
def cf : Cfg := { own := fun f => ownsL.contains f, byRef := fun f => refsL.contains f, orc := fun _ => none }
attribute [simp] ownsL refsL
@[simp] theorem cf_own (f : FuncId) : cf.own f = ownsL.contains f := rfl
@[simp] theorem cf_ref (f : FuncId) : cf.byRef f = refsL.contains f := rfl
end Go.Proofs.Ytckjogpdnkocbaa.Den
namespace Go.Proofs.Ytckjogpdnkocbaa.Den
open Go.Proofs
set_option maxHeartbeats 400000
@[simp] theorem own8 : cf.own 8 = true := rfl
def rowsI (l : List Int) : List (List A) := l.map fun x => [A.int .i64 x]
@[simp] theorem rowsI_len (l : List Int) : (rowsI l).length = l.length := by simp [rowsI]
/-- The first i numbers, then noughts. -/
def fillI (l : List Int) (i : Nat) : List (List A) := rowsI (l.take i) ++ List.replicate (l.length - i) [.int .i64 0]
@[simp] theorem fillI_len (l : List Int) (i : Nat) (hi : i ≤ l.length) : (fillI l i).length = l.length := by simp [fillI]; omega
@[simp] theorem fillI_get (l : List Int) (i : Nat) (h : i < (fillI l i).length) : (fillI l i)[i] = [.int .i64 0] := by
  simp only [fillI] at h ⊢
  rw [List.getElem_append_right (by simp; omega)]
  simp
theorem fillI_set (l : List Int) (i : Nat) (hi : i < l.length) : (fillI l i).set i [A.int .i64 l[i]] = fillI l (i + 1) := by
  apply List.ext_getElem?
  intro j
  simp only [fillI, rowsI]
  rw [List.getElem?_set]
  split
  · rename_i e; subst e
    rw [if_pos (by simp; omega), List.getElem?_append_left (by simp; omega)]
    simp [hi]
  · rename_i hne
    rcases Nat.lt_or_ge j i with h | h
    · rw [List.getElem?_append_left (by simp; omega), List.getElem?_append_left (by simp; omega)]
      simp [h, Nat.lt_succ_of_lt h]
    · rw [List.getElem?_append_right (by simp; omega), List.getElem?_append_right (by simp; omega)]
      simp only [List.getElem?_replicate, List.length_map, List.length_take]
      rw [Nat.min_eq_left (by omega), Nat.min_eq_left (by omega)]
      by_cases hj : j < l.length
      · rw [if_pos (by omega), if_pos (by omega)]
      · rw [if_neg (by omega), if_neg (by omega)]
theorem fillI_zero (l : List Int) : fillI l 0 = List.replicate l.length [.int .i64 0] := by simp [fillI, rowsI]
theorem fillI_all (l : List Int) : fillI l l.length = rowsI l := by simp [fillI]
@[simp] theorem rowsI_get (l : List Int) (i : Nat) (h : i < (rowsI l).length) : (rowsI l)[i] = [.int .i64 (l[i]'(by simpa using h))] := by simp [rowsI]

theorem toIntS_loop (l : List Int) (hl : l.length ≤ 1048576) :
    ∀ (d i : Nat) (env : Env), l.length - i = d → i ≤ l.length → get env 4 = .int .i64 i → get env 0 = .sl (rowsI l) → get env 3 = .own 1 0 0 l.length →
    Out (execω Try.prog cf 0 22 (lp Try.f8 0) env [.vec 0 0 [], .vec 0 1 (fillI l i)]) fun e env' H' =>
      e = .exit 0 ∧ get env' 3 = .own 1 0 0 l.length ∧ H' = [.vec 0 0 [], .vec 0 1 (rowsI l)] := by
  intro d
  induction d with
  | zero =>
    intro i env hd hi h4 h0 h3
    simp only [lp, loops, Try.f8, List.nil_append, List.getD_cons_zero, List.append_nil]
    rw [Out_loop]
    have : i = l.length := by omega
    subst this
    simp [h4, h0, h3, lenA, lenTy, binA, binI, fillI_all]
  | succ d ih =>
    intro i env hd hi h4 h0 h3
    have hlt : i < l.length := by omega
    have hlt' : (i : Int) < l.length := by omega
    have hw := i64_in (n := (i : Int) + 1) (by omega) (by omega)
    simp only [lp, loops, Try.f8, List.nil_append, List.getD_cons_zero, List.append_nil]
    rw [Out_loop]
    simp [h4, h0, h3, lenA, lenTy, binA, binI, hlt', indexA, hlt, hi, loadAt, loadA, hw, step_store, storeAt, A.cells, frzL, frz1, setCells, fillI_set]
    exact ih (i + 1) _ (by omega) (by omega) (by simp) (by simp [h0]) (by simp [h3])

theorem toIntS_den (l : List Int) (hl : l.length ≤ 1048576) : callω Try.prog cf 8 [.sl (rowsI l)] [] = some (.own 0 0 0 l.length, [.vec 0 1 (rowsI l)]) := by
  refine call_out Try.func8 rfl rfl rfl ?_
  simp only [Try.f8]
  simp (disch := first | omega | (simp <;> omega) | fail) []
  rw [← fillI_zero]
  refine (toIntS_loop l hl _ 0 _ rfl (by omega) (by simp) (by simp) (by simp)).mono ?_
  rintro e env H ⟨rfl, h3, rfl⟩
  simp [h3, retF, resVals, retAs, retA, ret1, wrapRes]
  exact List.take_of_length_le (by simp)

theorem eqIntS_loop (a b : List Int) (hl : a.length ≤ 1048576) (hab : a.length = b.length) (H : Heap) :
    ∀ (d i : Nat) (env : Env), a.length - i = d → i ≤ a.length → get env 5 = .int .i64 i → get env 0 = .sl (rowsI a) → get env 1 = .sl (rowsI b) →
    Out (execω Try.prog cf 0 26 (lp Try.f10 0) env H) fun e env' H' => H' = H ∧ ((a.drop i = b.drop i ∧ e = .exit 0) ∨ (a.drop i ≠ b.drop i ∧ e = .ret ∧ get env' 4 = .bool false)) := by
  intro d
  induction d with
  | zero =>
    intro i env hd hi h5 h0 h1
    simp only [lp, loops, Try.f10, List.nil_append, List.getD_cons_zero, List.append_nil]
    rw [Out_loop]
    have : i = a.length := by omega
    subst this
    simp [h5, h0, h1, lenA, lenTy, binA, binI]
    rw [hab]; simp
  | succ d ih =>
    intro i env hd hi h5 h0 h1
    have hlt : i < a.length := by omega
    have hltb : i < b.length := by omega
    have hlt' : (i : Int) < a.length := by omega
    have hw := i64_in (n := (i : Int) + 1) (by omega) (by omega)
    simp only [lp, loops, Try.f10, List.nil_append, List.getD_cons_zero, List.append_nil]
    rw [Out_loop]
    simp [h5, h0, h1, lenA, lenTy, binA, binI, hlt']
    refine Out_draw pd10_6 ?_
    by_cases he : a[i] = b[i]
    · simp [h5, h0, h1, binA, binI, indexA, hlt, hltb, loadAt, loadA, he, hw]
      refine (ih (i + 1) _ (by omega) (by omega) (by simp) (by simp [h0]) (by simp [h1])).mono ?_
      rintro e env' H' ⟨rfl, hc⟩
      refine ⟨rfl, ?_⟩
      have hd2 : (a.drop i = b.drop i) = (a.drop (i + 1) = b.drop (i + 1)) := by
        rw [List.drop_eq_getElem_cons hlt, List.drop_eq_getElem_cons hltb, he]
        simp only [List.cons.injEq, true_and]
      simp only [ne_eq, hd2]
      exact hc
    · simp [h5, h0, h1, binA, binI, indexA, hlt, hltb, loadAt, loadA, he, hw]
      rw [List.drop_eq_getElem_cons hlt, List.drop_eq_getElem_cons hltb]
      intro hc
      injection hc with hc _
      exact he hc

theorem eqIntS_den (a b : List Int) (hl : a.length ≤ 1048576) : callω Try.prog cf 10 [.sl (rowsI a), .sl (rowsI b)] [] = some (.bool (decide (a = b)), []) := by
  refine call_out Try.func10 rfl rfl rfl ?_
  simp only [Try.f10]
  by_cases hab : a.length = b.length
  · simp [initEnv, lenA, lenTy, binA, binI, hab]
    refine (eqIntS_loop a b hl hab [] _ 0 _ rfl (by omega) (by simp) (by simp) (by simp)).mono ?_
    rintro e env H ⟨rfl, ⟨h, rfl⟩ | ⟨h, rfl, h4⟩⟩
    · have h : a = b := by simpa using h
      subst h
      simp [retF, resVals, retAs, retA, ret1, wrapRes, pure1]
    · have h : a ≠ b := by simpa using h
      simp [h4, retF, resVals, retAs, retA, ret1, wrapRes, pure1, h]
  · have hab' : ¬ ((a.length : Int) = b.length) := by omega
    have : a ≠ b := fun e => hab (by rw [e])
    simp [initEnv, lenA, lenTy, binA, binI, hab', this, retF, resVals, retAs, retA, ret1, wrapRes, pure1]

/-- The numbers from k on. -/
def upFrom (k : Int) : Nat → List Int
  | 0 => []
  | n + 1 => k :: upFrom (k + 1) n
/-- The first i rows are written over by k, k + 1, .. -/
def markI (l : List Int) (k : Int) (i : Nat) : List Int := upFrom k i ++ l.drop i
theorem upFrom_len (k : Int) (n : Nat) : (upFrom k n).length = n := by
  induction n generalizing k with
  | zero => rfl
  | succ n ih => simp [upFrom, ih]
theorem upFrom_snoc (k : Int) (n : Nat) : upFrom k (n + 1) = upFrom k n ++ [k + n] := by
  induction n generalizing k with
  | zero => simp [upFrom]
  | succ n ih => rw [upFrom, ih, upFrom]; simp; omega
theorem markI_len (l : List Int) (k : Int) (i : Nat) (hi : i ≤ l.length) : (markI l k i).length = l.length := by simp [markI, upFrom_len]; omega
theorem markI_set (l : List Int) (k : Int) (i : Nat) (hi : i < l.length) : (rowsI (markI l k i)).set i [A.int .i64 (k + i)] = rowsI (markI l k (i + 1)) := by
  simp only [markI, rowsI]
  rw [List.drop_eq_getElem_cons hi, upFrom_snoc]
  simp only [List.map_append, List.map_cons, List.map_nil]
  rw [List.set_append_right _ _ (by simp [upFrom_len])]
  simp only [List.length_map, upFrom_len, Nat.sub_self, List.set_cons_zero, List.append_assoc, List.cons_append, List.nil_append]

theorem markIntS_loop (l : List Int) (hl : l.length ≤ 1048576) (k : Int) (hk : 0 ≤ k) (hk2 : k ≤ 4294967296) (B : Nat) (ver : Nat) (H0 H1 : Heap) (hB : H0.length = B) (base : Nat) :
    ∀ (d i : Nat) (env : Env), l.length - i = d → i ≤ l.length → get env 5 = .int .i64 i → get env 0 = .own B ver 0 l.length → get env 1 = .int .i64 (k + i) →
    Out (execω Try.prog cf base 19 (lp Try.f11 0) env (H0 ++ .vec ver 1 (rowsI (markI l k i)) :: H1)) fun e env' H' => e = .exit 0 ∧ H' = H0 ++ .vec ver 1 (rowsI (markI l k l.length)) :: H1 ∧ get env' 1 = .int .i64 (k + l.length) := by
  intro d
  induction d with
  | zero =>
    intro i env hd hi h5 h0 h1
    simp only [lp, loops, Try.f11, List.nil_append, List.getD_cons_zero, List.append_nil]
    rw [Out_loop]
    have : i = l.length := by omega
    subst this
    simp [h5, h0, h1, lenA, lenTy, binA, binI]
  | succ d ih =>
    intro i env hd hi h5 h0 h1
    have hlt : i < l.length := by omega
    have hlt' : (i : Int) < l.length := by omega
    have hw := i64_in (n := (i : Int) + 1) (by omega) (by omega)
    have hw2 := i64_in (n := k + (i : Int) + 1) (by omega) (by omega)
    have hget : ∀ x : Blk, (H0 ++ x :: H1)[B]? = some x := fun x => by rw [← hB]; simp
    have hset : ∀ x y : Blk, (H0 ++ x :: H1).set B y = H0 ++ y :: H1 := fun x y => by rw [← hB]; simp
    have hml : i < (markI l k i).length := by rw [markI_len _ _ _ hi]; exact hlt
    simp only [lp, loops, Try.f11, List.nil_append, List.getD_cons_zero, List.append_nil]
    rw [Out_loop]
    simp [h5, h0, h1, lenA, lenTy, binA, binI, hlt', indexA, hlt, hw, hw2, step_store, storeAt, A.cells, frzL, frz1, setCells, hget, hset, hml, markI_set]
    refine (ih (i + 1) _ (by omega) (by omega) (by simp) (by simp [h0]) (by simp; omega)).mono ?_
    rintro e env' H' ⟨rfl, rfl, h1'⟩
    exact ⟨rfl, rfl, h1'⟩

theorem markIntS_den (l : List Int) (hl : l.length ≤ 1048576) (k : Int) (hk : 0 ≤ k) (hk2 : k ≤ 4294967296) (B ver : Nat) (H0 H1 : Heap) (hB : H0.length = B) :
    callω Try.prog cf 11 [.own B ver 0 l.length, .int .i64 k] (H0 ++ .vec ver 1 (rowsI l) :: H1) = some (.int .i64 (k + l.length), H0 ++ .vec ver 1 (rowsI (upFrom k l.length)) :: H1) := by
  refine call_out Try.func11 rfl rfl rfl ?_
  simp only [Try.f11]
  simp [initEnv]
  refine (markIntS_loop l hl k hk hk2 B ver H0 H1 hB _ _ 0 _ rfl (by omega) (by simp) (by simp) (by simp)).mono ?_
  rintro e env H ⟨rfl, rfl, h1⟩
  simp [h1, retF, resVals, retAs, retA, ret1, wrapRes, pure1, markI]
  exact List.take_of_length_le (by simp)

theorem heldIntS_loop (l : List Int) (hl : l.length ≤ 1048576) (k : Int) (hk : 0 ≤ k) (hk2 : k ≤ 4294967296) (H : Heap) :
    ∀ (d i : Nat) (env : Env), l.length - i = d → i ≤ l.length → get env 5 = .int .i64 i → get env 0 = .sl (rowsI l) → get env 1 = .int .i64 (k + i) →
    Out (execω Try.prog cf 0 21 (lp Try.f12 0) env H) fun e env' H' => H' = H ∧ ((l.drop i = upFrom (k + i) (l.length - i) ∧ e = .exit 0 ∧ get env' 1 = .int .i64 (k + l.length)) ∨ (l.drop i ≠ upFrom (k + i) (l.length - i) ∧ e = .ret ∧ get env' 4 = .int .i64 (-1))) := by
  intro d
  induction d with
  | zero =>
    intro i env hd hi h5 h0 h1
    simp only [lp, loops, Try.f12, List.nil_append, List.getD_cons_zero, List.append_nil]
    rw [Out_loop]
    have : i = l.length := by omega
    subst this
    simp [h5, h0, h1, lenA, lenTy, binA, binI, upFrom]
  | succ d ih =>
    intro i env hd hi h5 h0 h1
    have hlt : i < l.length := by omega
    have hlt' : (i : Int) < l.length := by omega
    have hw := i64_in (n := (i : Int) + 1) (by omega) (by omega)
    have hw2 := i64_in (n := k + (i : Int) + 1) (by omega) (by omega)
    simp only [lp, loops, Try.f12, List.nil_append, List.getD_cons_zero, List.append_nil]
    rw [Out_loop]
    have hup : l.length - i = (l.length - (i + 1)) + 1 := by omega
    by_cases he : l[i] = k + i
    · have hd2 : (l.drop i = upFrom (k + i) (l.length - i)) = (l.drop (i + 1) = upFrom (k + (i + 1 : Nat)) (l.length - (i + 1))) := by
        rw [List.drop_eq_getElem_cons hlt, hup, upFrom, he]
        simp only [List.cons.injEq, true_and]
        rw [show k + ((i + 1 : Nat) : Int) = k + i + 1 by omega]
      simp [h5, h0, h1, lenA, lenTy, binA, binI, hlt', indexA, hlt, loadAt, loadA, hw, hw2, he]
      simp only [hd2]
      exact ih (i + 1) _ (by omega) (by omega) (by simp) (by simp [h0]) (by simp; omega)
    · simp [h5, h0, h1, lenA, lenTy, binA, binI, hlt', indexA, hlt, loadAt, loadA, he]
      rw [List.drop_eq_getElem_cons hlt, hup, upFrom]
      intro hc
      injection hc with hc _
      exact he hc

theorem heldIntS_den (l : List Int) (hl : l.length ≤ 1048576) (k : Int) (hk : 0 ≤ k) (hk2 : k ≤ 4294967296) :
    callω Try.prog cf 12 [.sl (rowsI l), .int .i64 k] [] = some (.int .i64 (if l = upFrom k l.length then k + l.length else -1), []) := by
  refine call_out Try.func12 rfl rfl rfl ?_
  simp only [Try.f12]
  simp [initEnv]
  refine (heldIntS_loop l hl k hk hk2 [] _ 0 _ rfl (by omega) (by simp) (by simp) (by simp)).mono ?_
  rintro e env H ⟨rfl, ⟨h, rfl, h1⟩ | ⟨h, rfl, h4⟩⟩
  · have h : l = upFrom k l.length := by simpa using h
    rw [if_pos h]
    simp [h1, retF, resVals, retAs, retA, ret1, wrapRes, pure1]
  · have h : l ≠ upFrom k l.length := by simpa using h
    rw [if_neg h]
    simp [h4, retF, resVals, retAs, retA, ret1, wrapRes, pure1]
end Go.Proofs.Ytckjogpdnkocbaa.Den
namespace Go.Proofs.Ytckjogpdnkocbaa.Den
open Go.Proofs
set_option maxHeartbeats 400000
theorem pickE (base : Nat) (c a b : Operand) (env : Env) (h : Heap) {P : Program} {cfg : Cfg} {C : CallFn} : stepOp P cfg C base (.pick c a b) env h = match ev env c with
    | .bool t => some (if t = true then ev env a else ev env b, h)
    | _ => none := rfl
/-- Between the two. -/
def inR (lo hi n : Int) : Bool := decide (lo ≤ n) && decide (n ≤ hi)
@[simp] theorem within_den (n lo hi : Int) : callω Try.prog cf 77 [.int .i64 n, .int .i64 lo, .int .i64 hi] [] = some (.bool (inR lo hi n), []) := by
  refine call_out Try.func77 rfl rfl rfl ?_
  simp only [Try.f77]
  by_cases h1 : lo ≤ n <;> by_cases h2 : n ≤ hi <;>
  simp [initEnv, binA, binI, inR, h1, h2, retF, resVals, retAs, retA, ret1, pure1, wrapRes]
@[simp] theorem l1In_den (n lo hi : Int) : callω Try.prog cf 76 [.int .i64 n, .int .i64 lo, .int .i64 hi] [] = some (.bool (inR lo hi n), []) := by
  refine call_out Try.func76 rfl rfl rfl ?_
  simp only [Try.f76]
  by_cases h1 : lo ≤ n <;> by_cases h2 : n ≤ hi <;>
  simp [initEnv, binA, binI, inR, h1, h2, retF, resVals, retAs, retA, ret1, pure1, wrapRes]

/-- A call of plain values that gives a plain value. -/
theorem callA_pure {C : CallFn} {f : FuncId} {args : List A} {h : Heap} {r : A} (hs : snaps h args = some (args, [])) (hp : args.all pureA = true) (hc : C f args [] = some (r, [])) (hr : shift h.length r = r) : callA C f args h = some (r, h) := by
  simp only [callA, hs, hp, if_true, hc]
  split <;> simp [killAll, hr]

theorem l15_loop (l : List Int) (hl : l.length ≤ 1048576) (H : Heap) :
    ∀ (d i : Nat) (env : Env), l.length - i = d → i ≤ l.length → get env 7 = .int .i64 i → get env 6 = .int .i64 l.length → get env 5 = .sl (rowsI l) →  get env 0 = .sl (rowsI l) →
    Out (execω Try.prog cf 0 18 (lp Try.f41 0) env H) fun e env' H' => H' = H ∧ get env' 0 = .sl (rowsI l) ∧ (((l.drop i).all (inR 1 100000) = true ∧ e = .exit 0) ∨ ((l.drop i).all (inR 1 100000) = false ∧ e = .ret ∧ get env' 2 = .bool false)) := by
  intro d
  induction d with
  | zero =>
    intro i env hd hi h7 h6 h5 h0
    simp only [lp, loops, Try.f41, List.nil_append, List.getD_cons_zero, List.append_nil]
    rw [Out_loop]
    have : i = l.length := by omega
    subst this
    simp [h7, h6, h5, h0, binA, binI]
  | succ d ih =>
    intro i env hd hi h7 h6 h5 h0
    have hlt : i < l.length := by omega
    have hlt' : (i : Int) < l.length := by omega
    have hw := i64_in (n := (i : Int) + 1) (by omega) (by omega)
    have hcall : ∀ h : Heap, callA (callω Try.prog cf) 76 [.int .i64 l[i], .int .i64 1, .int .i64 100000] h = some (.bool (inR 1 100000 l[i]), h) := fun h => callA_pure rfl rfl (l1In_den _ _ _) rfl
    simp only [lp, loops, Try.f41, List.nil_append, List.getD_cons_zero, List.append_nil]
    rw [Out_loop]
    by_cases he : inR 1 100000 l[i] = true
    · have hd2 : (l.drop i).all (inR 1 100000) = (l.drop (i + 1)).all (inR 1 100000) := by
        rw [List.drop_eq_getElem_cons hlt, List.all_cons, he, Bool.true_and]
      have hb : cf.byRef 76 = false := rfl
      simp only [hd2]
      generalize hQ : (fun (e : X) (env' : Env) (H' : Heap) => H' = H ∧ get env' 0 = A.sl (rowsI l) ∧ ((l.drop (i + 1)).all (inR 1 100000) = true ∧ e = .exit 0 ∨ (l.drop (i + 1)).all (inR 1 100000) = false ∧ e = .ret ∧ get env' 2 = .bool false)) = Q
      simp [h7, h6, h5, h0, binA, binI, hlt', indexA, hlt, loadAt, loadA, hw, hb, hcall, he, unA]
      subst hQ
      exact ih (i + 1) _ (by omega) (by omega) (by simp) (by simp [h6]) (by simp [h5]) (by simp [h0])
    · have he : inR 1 100000 l[i] = false := by simpa using he
      have hb : cf.byRef 76 = false := rfl
      have hd2 : (l.drop i).all (inR 1 100000) = false := by
        rw [List.drop_eq_getElem_cons hlt, List.all_cons, he, Bool.false_and]
      simp only [hd2]
      simp [h7, h6, h5, h0, binA, binI, hlt', indexA, hlt, loadAt, loadA, hw, hb, hcall, he, unA]

theorem l15Weights_den (l : List Int) (hl : l.length ≤ 1048576) : callω Try.prog cf 41 [.sl (rowsI l)] [] = some (.bool (l.all (inR 1 100000) && inR 2 24 l.length), []) := by
  refine call_out Try.func41 rfl rfl rfl ?_
  simp only [Try.f41]
  have hcall : callA (callω Try.prog cf) 76 [.int .i64 l.length, .int .i64 2, .int .i64 24] [] = some (.bool (inR 2 24 l.length), []) := callA_pure rfl rfl (l1In_den _ _ _) rfl
  have hb : cf.byRef 76 = false := rfl
  simp [initEnv, lenA, lenTy]
  refine (l15_loop l hl [] _ 0 _ rfl (by omega) (by simp) (by simp) (by simp) (by simp)).mono ?_
  rintro e env H ⟨rfl, h0, ⟨h, rfl⟩ | ⟨h, rfl, h4⟩⟩
  · rw [List.drop_zero] at h
    rw [h]
    simp [h0, lenA, lenTy, hb, hcall, retF, resVals, retAs, retA, ret1, wrapRes, pure1]
  · rw [List.drop_zero] at h
    rw [h]
    simp [h4, retF, resVals, retAs, retA, ret1, wrapRes, pure1]
end Go.Proofs.Ytckjogpdnkocbaa.Den
namespace Go.Proofs.Ytckjogpdnkocbaa.Den
open Go.Proofs
set_option maxHeartbeats 400000
/-- A function value that answers as told, whatever the blocks above. -/
def Tells (g : FuncId) (caps : List A) (p : Int → Bool) (H : Heap) (l : List Int) : Prop := ∀ x, x ∈ l → callA (callω Try.prog cf) g (.int .i64 x :: caps) H = some (.bool (p x), H)

theorem index_loop (l : List Int) (hl : l.length ≤ 1048576) (p : Int → Bool) (g : FuncId) (caps : List A) (H : Heap) (base : Nat) (hg : Tells g caps p H l) (hbr : cf.byRef g = false) (Q : X → Env → Heap → Prop)
    (hQ : ∀ e env, (match l.findIdx? p with
      | some j => e = .ret ∧ get env 4 = .int .i64 (j : Int)
      | none => e = .exit 0) → Q e env H) :
    ∀ (d i : Nat) (env : Env), l.length - i = d → i ≤ l.length → (∀ j (hj : j < l.length), j < i → p l[j] = false) → get env 8 = .int .i64 i → get env 7 = .int .i64 l.length → get env 0 = .sl (rowsI l) → get env 1 = .fn g caps →
    Out (execω Try.prog cf base 19 (lp Try.f108 0) env H) Q := by
  intro d
  induction d with
  | zero =>
    intro i env hd hi hno h8 h7 h0 h1
    have hi2 : i = l.length := by omega
    subst hi2
    have hf : l.findIdx? p = none := by
      rw [List.findIdx?_eq_none_iff]
      intro x hx
      obtain ⟨j, hj, rfl⟩ := List.getElem_of_mem hx
      exact hno j hj hj
    simp only [lp, loops, Try.f108, List.nil_append, List.getD_cons_zero, List.append_nil]
    rw [Out_loop]
    simp [-callA_eq, -cf_ref, h8, h7, binA, binI]
    exact hQ _ _ (by rw [hf])
  | succ d ih =>
    intro i env hd hi hno h8 h7 h0 h1
    have hlt : i < l.length := by omega
    have hlt' : (i : Int) < l.length := by omega
    have hw := i64_in (n := (i : Int) + 1) (by omega) (by omega)
    have hgi := hg l[i] (List.getElem_mem _)
    simp only [lp, loops, Try.f108, List.nil_append, List.getD_cons_zero, List.append_nil]
    rw [Out_loop]
    cases hp : p l[i] with
    | true =>
      have hf : l.findIdx? p = some i := by
        rw [List.findIdx?_eq_some_iff_getElem]
        exact ⟨hlt, hp, fun j hj => by simp [hno j (by omega) hj]⟩
      simp [-callA_eq, -cf_ref, h8, h7, h0, h1, binA, binI, hlt', indexA, hlt, loadAt, loadA, hgi, hp, hbr]
      exact hQ _ _ (by rw [hf]; simp)
    | false =>
      simp [-callA_eq, -cf_ref, h8, h7, h0, h1, binA, binI, hlt', indexA, hlt, loadAt, loadA, hgi, hp, hbr, hw]
      exact ih (i + 1) _ (by omega) (by omega) (fun j hj hji => by
        by_cases e : j = i
        · subst e; exact hp
        · exact hno j hj (by omega)) (by simp) (by simp [h7]) (by simp [h0]) (by simp [h1])

def idxOf (l : List Int) (p : Int → Bool) : Int := match l.findIdx? p with
  | some j => j
  | none => -1

theorem indexFunc_den (l : List Int) (hl : l.length ≤ 1048576) (p : Int → Bool) (g : FuncId) (caps : List A) (H : Heap) (hg : Tells g caps p H l) (hbr : cf.byRef g = false) :
    callω Try.prog cf 108 [.sl (rowsI l), .fn g caps] H = some (.int .i64 (idxOf l p), H) := by
  refine call_out Try.func108 rfl rfl rfl ?_
  simp only [Try.f108]
  simp [-callA_eq, -cf_ref, initEnv, lenA, lenTy]
  refine index_loop l hl p g caps H _ hg hbr _ (fun e env h => ?_) _ 0 _ rfl (by omega) (fun j hj hji => by omega) (by simp) (by simp) (by simp) (by simp)
  unfold idxOf
  cases hf : l.findIdx? p with
  | none =>
    rw [hf] at h
    subst h
    simp [retF, resVals, retAs, retA, ret1, wrapRes, pure1]
  | some j =>
    rw [hf] at h
    obtain ⟨rfl, h4⟩ := h
    simp [h4, retF, resVals, retAs, retA, ret1, wrapRes, pure1]

theorem callA_imp {C : CallFn} {f : FuncId} {args : List A} {h : Heap} (hs : snaps h args = some (args, [])) (hp : args.all pureA = false) : callA C f args h = C f args h := by
  simp [callA, hs, hp, killAll]

theorem idxOf_any (l : List Int) (p : Int → Bool) : decide (0 ≤ idxOf l p) = l.any p := by
  unfold idxOf
  cases hf : l.findIdx? p with
  | none =>
    rw [List.findIdx?_eq_none_iff] at hf
    have : l.any p = false := by
      rw [List.any_eq_false]
      intro x hx; simp [hf x hx]
    rw [this]; rfl
  | some j =>
    rw [List.findIdx?_eq_some_iff_getElem] at hf
    obtain ⟨hj, hp, _⟩ := hf
    have : l.any p = true := List.any_eq_true.2 ⟨l[j], List.getElem_mem _, hp⟩
    rw [this]; simp

theorem containsFunc_den (l : List Int) (hl : l.length ≤ 1048576) (p : Int → Bool) (g : FuncId) (c : A) (cs : List A) (H : Heap) (hg : Tells g (c :: cs) p H l) (hbr : cf.byRef g = false) :
    callω Try.prog cf 103 [.sl (rowsI l), .fn g (c :: cs)] H = some (.bool (l.any p), H) := by
  refine call_out Try.func103 rfl rfl rfl ?_
  simp only [Try.f103]
  have hcall : callA (callω Try.prog cf) 108 [.sl (rowsI l), .fn g (c :: cs)] H = some (.int .i64 (idxOf l p), H) := by
    rw [callA_imp rfl rfl]
    exact indexFunc_den l hl p g (c :: cs) H hg hbr
  have hb : cf.byRef 108 = false := rfl
  simp [-callA_eq, -cf_ref, initEnv, hb, hcall, binA, binI, retF, resVals, retAs, retA, ret1, wrapRes, pure1]
  rw [← idxOf_any]
end Go.Proofs.Ytckjogpdnkocbaa.Den
namespace Go.Proofs.Ytckjogpdnkocbaa.Den
open Go.Proofs
set_option maxHeartbeats 400000
theorem lit79_den (n : Int) (H : Heap) : callA (callω Try.prog cf) 79 [.int .i64 n] H = some (.bool (inR 1 100000 n), H) := by
  refine callA_pure rfl rfl ?_ rfl
  refine call_out Try.func79 rfl rfl rfl ?_
  simp only [Try.f79]
  have hb : cf.byRef 77 = false := rfl
  have hcall : callA (callω Try.prog cf) 77 [.int .i64 n, .int .i64 1, .int .i64 100000] [] = some (.bool (inR 1 100000 n), []) := callA_pure rfl rfl (within_den _ _ _) rfl
  simp [-callA_eq, -cf_ref, initEnv, hb, hcall, retF, resVals, retAs, retA, ret1, wrapRes, pure1]
theorem lit104_den (n : Int) (B : Nat) (H : Heap) (hB : H[B]? = some (.var [.fn 79 []])) : callA (callω Try.prog cf) 104 [.int .i64 n, .ptr B 0] H = some (.bool (!inR 1 100000 n), H) := by
  rw [callA_imp rfl rfl]
  refine call_out Try.func104 rfl rfl rfl ?_
  simp only [Try.f104]
  have hb : cf.byRef 79 = false := rfl
  simp [-callA_eq, -cf_ref, initEnv, hb, hB, loadAt, loadA, lit79_den, unA, retF, resVals, retAs, retA, ret1, wrapRes, pure1]
theorem areAll_den (l : List Int) (hl : l.length ≤ 1048576) : callω Try.prog cf 78 [.sl (rowsI l), .fn 79 []] [] = some (.bool (l.all (inR 1 100000)), []) := by
  refine call_out Try.func78 rfl rfl rfl ?_
  simp only [Try.f78]
  have hb : cf.byRef 103 = false := rfl
  have hcall : callA (callω Try.prog cf) 103 [.sl (rowsI l), .fn 104 [.ptr 0 0]] [.var [.fn 79 []]] = some (.bool (l.any fun n => !inR 1 100000 n), [.var [.fn 79 []]]) := by
    rw [callA_imp rfl rfl]
    exact containsFunc_den l hl _ 104 _ _ _ (fun x _ => lit104_den x 0 _ rfl) rfl
  simp [-callA_eq, -cf_ref, initEnv, hb, hcall, isUndef, A.cells, unA, retF, resVals, retAs, retA, ret1, wrapRes, pure1]
  rw [List.not_all_eq_any_not]

theorem areWeights_den (l : List Int) (hl : l.length ≤ 1048576) : callω Try.prog cf 42 [.sl (rowsI l)] [] = some (.bool (inR 2 24 l.length && l.all (inR 1 100000)), []) := by
  refine call_out Try.func42 rfl rfl rfl ?_
  simp only [Try.f42]
  have hb : cf.byRef 77 = false := rfl
  have hb2 : cf.byRef 78 = false := rfl
  have hc1 : callA (callω Try.prog cf) 77 [.int .i64 l.length, .int .i64 2, .int .i64 24] [] = some (.bool (inR 2 24 l.length), []) := callA_pure rfl rfl (within_den _ _ _) rfl
  have hc2 : callA (callω Try.prog cf) 78 [.sl (rowsI l), .fn 79 []] [] = some (.bool (l.all (inR 1 100000)), []) := callA_pure rfl rfl (areAll_den l hl) rfl
  generalize hq : inR 2 24 l.length = q at hc1
  cases q <;> simp [-callA_eq, -cf_ref, initEnv, lenA, lenTy, hb, hb2, hc1, hc2, retF, resVals, retAs, retA, ret1, wrapRes, pure1, hq]
end Go.Proofs.Ytckjogpdnkocbaa.Den
namespace Go.Proofs.Ytckjogpdnkocbaa.Den
open Go.Proofs
set_option maxHeartbeats 400000
set_option maxRecDepth 20000
def maxI (m y : Int) : Int := if y > m then y else m
theorem take_foldl {α β : Type} (f : β → α → β) (b : β) (l : List α) (i : Nat) (h : i < l.length) : (l.take (i + 1)).foldl f b = f ((l.take i).foldl f b) l[i] := by
  rw [List.take_succ_eq_append_getElem h, List.foldl_append]; rfl
@[simp] theorem max_den (x : Int) (l : List Int) (hl : l.length ≤ 1048576) : callω Try.prog cf 46 [.sl (rowsI (x :: l))] [] = some (.int .i64 (l.foldl maxI x), []) := by
  refine call_out Try.func46 rfl rfl rfl ?_; simp only [Try.f46]
  simp (disch := first | omega | (simp <;> omega) | fail) []
  refine Out_if (fun hc => ?_) (fun hc => ?_)
  · simp at hc; omega
  simp (disch := first | omega | (simp <;> omega) | fail) [rowsI]
  refine Out.mono (Out_iter (fun (i : Nat) env H => H = [] ∧ i ≤ l.length ∧ get env 0 = .sl (rowsI (x :: l)) ∧ get env 4 = .int .i64 (i + 1 : Nat) ∧ get env 3 = .int .i64 ((l.take i).foldl maxI x)) (fun i => l.length - i)
    (fun e env H => H = [] ∧ e = .exit 0 ∧ get env 3 = .int .i64 (l.foldl maxI x)) ?_ 0 _ _ (by simp [rowsI])) ?_
  · rintro i env H ⟨rfl, hi, h0, h4, h3⟩
    simp (disch := first | omega | (simp <;> omega) | fail) [h0, h4]
    refine Out_if (fun hc => ?_) (fun hc => ?_)
    · have hlt : i < l.length := by simpa using hc
      simp (disch := first | omega | (simp <;> omega) | fail) [h0, h4, h3]
      exact ⟨i + 1, by omega, by omega, by omega, by rw [take_foldl _ _ _ _ hlt]; rfl⟩
    · have : i = l.length := by simp at hc; omega
      subst this
      simp (disch := first | omega | (simp <;> omega) | fail) [h3]
  · rintro e env H ⟨rfl, rfl, h3⟩
    simp (disch := first | omega | (simp <;> omega) | fail) [h3]

def growH (n b : Nat) (H : Heap) : Heap := H.set b (.vec (gv n) (gv n) (List.replicate n [.int .i64 0]))
theorem grow_den (n : Nat) (hn : n ≤ 1048576) (b : Nat) (H : Heap) (hb : H[b]? = some (.vec 0 0 [])) : callω Try.prog cf 80 [.own b 0 0 0, .int .i64 n] H = some (.own b (gv n) 0 0, growH n b H) := by
  have hbl : b < H.length := (List.getElem?_eq_some_iff.1 hb).1
  have hb2 : H[b] = .vec 0 0 [] := (List.getElem?_eq_some_iff.1 hb).2
  refine call_out Try.func80 rfl rfl rfl ?_; simp only [Try.f80]
  simp (disch := first | omega | (simp <;> omega) | fail) []
  refine Out_if (fun hc => ?_) (fun hc => ?_)
  · simp at hc; omega
  simp (disch := first | omega | (simp <;> omega) | fail) [hb2, hbl]
  refine Out_if (fun hc => ?_) (fun hc => ?_)
  · simp at hc
    have hn0 : n ≠ 0 := by omega
    simp (disch := first | omega | (simp <;> omega) | fail) [hb2, hbl, growH, gv, hn0]
  · simp at hc
    subst hc
    simp (disch := first | omega | (simp <;> omega) | fail) [growH, gv, hbl]
    rw [← hb2, List.set_getElem_self]
theorem flat_take (ls : List (List (List A))) (i : Nat) (h : i < ls.length) : (ls.take (i + 1)).flatten = (ls.take i).flatten ++ ls[i] := by
  rw [List.take_succ_eq_append_getElem h, List.flatten_append, List.flatten_singleton]
theorem flat_take_le (ls : List (List (List A))) (i : Nat) : (ls.take i).flatten.length ≤ ls.flatten.length := by
  conv => rhs; rw [← List.take_append_drop i ls, List.flatten_append, List.length_append]
  omega
/-- What is put so far, and room. -/
def catR (ls : List (List (List A))) (i : Nat) : List (List A) := (ls.take i).flatten ++ List.replicate (ls.flatten.length - (ls.take i).flatten.length) [.int .i64 0]
theorem catR_app (ls : List (List (List A))) (i : Nat) (hlt : i < ls.length) (hs : ∀ l, l ∈ ls → szOk 1 l = true) :
    apK ⟨1, 8, false, none, some .i64, false, [], some [.int .i64 0]⟩ (some (.vec (gv ls.flatten.length) (gv ls.flatten.length) (catR ls i))) (some ls[i]) 1 (gv ls.flatten.length) 0 (ls.take i).flatten.length [.vec 0 0 [], .vec (gv ls.flatten.length) (gv ls.flatten.length) (catR ls i)] =
      some (.own 1 (gv ls.flatten.length) 0 ((ls.take i).flatten.length + ls[i].length), [.vec 0 0 [], .vec (gv ls.flatten.length) (gv ls.flatten.length) (catR ls (i + 1))]) := by
  have hf := flat_take ls i hlt
  have hf2 := flat_take_le ls (i + 1)
  rw [hf, List.length_append] at hf2
  rw [apK_room _ _ _ _ _ _ _ _ _ rfl]
  · simp only [List.set_cons_succ, List.set_cons_zero, Option.some.injEq, Prod.mk.injEq, true_and, List.cons.injEq, Blk.vec.injEq, and_true]
    simp only [catR, hf, Nat.zero_add, List.length_append]
    rw [List.take_left]
    congr 1
    rw [List.drop_append, List.drop_of_length_le (by omega), List.nil_append, List.drop_replicate]
    congr 1
    omega
  · simp only [catR, List.length_append, List.length_replicate]; omega
  · unfold gv; split <;> simp
  · simp
  · simp
  · simp
  · exact hs _ (List.getElem_mem _)
theorem concat_den (ls : List (List (List A))) (hs : ∀ l, l ∈ ls → szOk 1 l = true) (hl : ls.flatten.length ≤ 1048576) (hl2 : ls.length ≤ 1048576) :
    callω Try.prog cf 45 [.sl (ls.map fun l => [.sl l])] [] = some (.sl ls.flatten, []) := by
  refine call_out Try.func45 rfl rfl rfl ?_; simp only [Try.f45]
  simp (disch := first | omega | (simp <;> omega) | fail) [-List.length_flatten]
  refine Out.mono (Out_iter (fun (i : Nat) env H => H = [.vec 0 0 []] ∧ i ≤ ls.length ∧ get env 0 = .sl (ls.map fun l => [.sl l]) ∧ get env 9 = .sl (ls.map fun l => [.sl l]) ∧ get env 10 = .int .i64 ls.length ∧ get env 11 = .int .i64 i ∧ get env 3 = .int .i64 (ls.take i).flatten.length) (fun i => ls.length - i)
    (fun e env H => H = [.vec 0 0 []] ∧ e = .exit 0 ∧ get env 0 = .sl (ls.map fun l => [.sl l]) ∧ get env 3 = .int .i64 ls.flatten.length) ?_ 0 _ _ (by simp)) ?_
  · rintro i env H ⟨rfl, hi, h0, h9, h10, h11, h3⟩
    simp (disch := first | omega | (simp <;> omega) | fail) [-List.length_flatten, h9, h10, h11]
    refine Out_if (fun hc => ?_) (fun hc => ?_)
    · have hlt : i < ls.length := by simpa using hc
      have hf := flat_take ls i hlt
      have hf2 := flat_take_le ls (i + 1)
      rw [hf, List.length_append] at hf2
      simp (disch := first | omega | (simp <;> omega) | fail) [-List.length_flatten, h0, h9, h10, h11, h3]
      refine Out_if (fun hc => ?_) (fun hc => ?_)
      · simp at hc; omega
      simp (disch := first | omega | (simp <;> omega) | fail) [-List.length_flatten, h0, h9, h10, h11, h3]
      exact ⟨i + 1, by omega, by omega, by omega, by rw [hf, List.length_append]; omega⟩
    · have : i = ls.length := by simp at hc; omega
      subst this
      simp (disch := first | omega | (simp <;> omega) | fail) [-List.length_flatten, h0, h3]
  · rintro e env H ⟨rfl, rfl, h0, h3⟩
    simp (disch := first | omega | (simp <;> omega) | fail) [-List.length_flatten, h0, h3, grow_den, growH]
    refine Out.mono (Out_iter (fun (i : Nat) env H => H = [.vec 0 0 [], .vec (gv ls.flatten.length) (gv ls.flatten.length) (catR ls i)] ∧ i ≤ ls.length ∧ get env 25 = .sl (ls.map fun l => [.sl l]) ∧ get env 26 = .int .i64 ls.length ∧ get env 27 = .int .i64 i ∧ get env 6 = .own 1 (gv ls.flatten.length) 0 (ls.take i).flatten.length) (fun i => ls.length - i)
      (fun e env H => H = [.vec 0 0 [], .vec (gv ls.flatten.length) (gv ls.flatten.length) ls.flatten] ∧ e = .exit 2 ∧ get env 6 = .own 1 (gv ls.flatten.length) 0 ls.flatten.length) ?_ 0 _ _ (by simp [catR])) ?_
    · rintro i env H ⟨rfl, hi, h25, h26, h27, h6⟩
      simp (disch := first | omega | (simp <;> omega) | fail) [-List.length_flatten, h25, h26, h27]
      refine Out_if (fun hc => ?_) (fun hc => ?_)
      · have hlt : i < ls.length := by simpa using hc
        have hap := catR_app ls i hlt (fun l h => hs l h)
        simp (disch := first | omega | (simp <;> omega) | fail) [-List.length_flatten, h25, h26, h27, h6, hap]
        exact ⟨i + 1, by omega, by simp, by omega, by omega, by rw [flat_take ls i hlt, List.length_append]⟩
      · have : i = ls.length := by simp at hc; omega
        subst this
        simp (disch := first | omega | (simp <;> omega) | fail) [-List.length_flatten, h6, catR]
    · rintro e env H ⟨rfl, rfl, h6⟩
      simp (disch := first | omega | (simp <;> omega) | fail) [-List.length_flatten, h6]
end Go.Proofs.Ytckjogpdnkocbaa.Den
namespace Go.Proofs.Ytckjogpdnkocbaa.Den
/-! Trees that are put together, the two lightest first. -/
abbrev Tree := Int × List Int
/-- The first lightest. -/
def lgt (l : List Tree) (best k : Nat) : Nat := if (l.getD k default).1 < (l.getD best default).1 then k else best
def lgts (l : List Tree) : Nat → Nat
  | 0 => 0
  | n + 1 => lgt l (lgts l n) n
theorem lgts_lt (l : List Tree) (h : 0 < l.length) : ∀ n, n ≤ l.length → lgts l n < l.length
  | 0, _ => h
  | n + 1, hn => by
    have := lgts_lt l h n (by omega)
    unfold lgts lgt
    split <;> omega
/-- The place of the lightest. -/
def bst (l : List Tree) : Nat := lgts l l.length
theorem bst_lt (l : List Tree) (h : 0 < l.length) : bst l < l.length := lgts_lt l h _ (Nat.le_refl _)
def fstT (l : List Tree) : Tree := l.getD (bst l) default
def rest (l : List Tree) : List Tree := l.eraseIdx (bst l)
def both (l : List Tree) : Tree := ((fstT l).1 + (fstT (rest l)).1, (fstT l).2 ++ (fstT (rest l)).2)
def bump1 (o : List Int) (i : Int) : List Int := o.modify i.toNat (· + 1)
def bump (o : List Int) (is : List Int) : List Int := is.foldl bump1 o
abbrev HS := List Tree × List Int
def stepT (s : HS) : HS := (rest (rest s.1) ++ [both s.1], bump s.2 (both s.1).2)
theorem rest_len (l : List Tree) (h : 0 < l.length) : (rest l).length = l.length - 1 := by
  unfold rest
  rw [List.length_eraseIdx, if_pos (bst_lt l h)]
theorem stepT_len (s : HS) (h : 1 < s.1.length) : (stepT s).1.length = s.1.length - 1 := by
  have h1 := rest_len s.1 (by omega)
  have h2 := rest_len (rest s.1) (by omega)
  simp only [stepT, List.length_append, List.length_singleton, h2, h1]; omega
def runT : Nat → HS → HS
  | 0, s => s
  | n + 1, s => if 1 < s.1.length then runT n (stepT s) else s
def endT (s : HS) : HS := runT s.1.length s
theorem endT_one (s : HS) (h : ¬ 1 < s.1.length) : endT s = s := by
  unfold endT
  cases hn : s.1.length with
  | zero => rfl
  | succ n => simp only [runT, if_neg h]
theorem endT_step (s : HS) (h : 1 < s.1.length) : endT s = endT (stepT s) := by
  unfold endT
  rw [stepT_len s h]
  cases hn : s.1.length with
  | zero => omega
  | succ n => simp only [runT, if_pos h, Nat.add_sub_cancel]
/-- At the beginning. -/
def initT (l : List Int) (n : Nat) : List Tree := (List.range n).map fun j => (l.getD j 0, [(j : Int)])
theorem initT_len (l : List Int) (n : Nat) : (initT l n).length = n := by simp [initT]
theorem initT_succ (l : List Int) (n : Nat) (h : n < l.length) : initT l (n + 1) = initT l n ++ [(l[n], [(n : Int)])] := by
  simp [initT, List.range_succ, h]
def huff0 (l : List Int) : HS := (initT l l.length, List.replicate l.length 0)
def huff (l : List Int) : List Int := (endT (huff0 l)).2

/-- What holds all along. -/
structure GoodT (N : Nat) (s : HS) : Prop where
  len : s.2.length = N
  nodup : (s.1.map (·.2)).flatten.Nodup
  all : (s.1.map (·.2)).flatten.length = N
  tree : ∀ x, x ∈ s.1 → x.2 ≠ [] ∧ 0 ≤ x.1 ∧ x.1 ≤ 100000 * x.2.length
  sym : ∀ x, x ∈ s.1 → ∀ i, i ∈ x.2 → 0 ≤ i ∧ i < N ∧ 0 ≤ s.2.getD i.toNat 0 ∧ s.2.getD i.toNat 0 + 1 ≤ x.2.length
  cov : ∀ j, j < N → ∃ x, x ∈ s.1 ∧ (j : Int) ∈ x.2

theorem bump1_len (o : List Int) (i : Int) : (bump1 o i).length = o.length := by simp [bump1]
theorem bump_len : ∀ (is : List Int) (o : List Int), (bump o is).length = o.length
  | [], _ => rfl
  | i :: is, o => by
    show (bump (bump1 o i) is).length = _
    rw [bump_len is, bump1_len]
theorem bump1_get (o : List Int) (i : Int) (j : Nat) (hj : j < o.length) (hi : 0 ≤ i) : (bump1 o i).getD j 0 = o.getD j 0 + if (j : Int) = i then 1 else 0 := by
  have hb : j < (bump1 o i).length := by rw [bump1_len]; exact hj
  rw [List.getD_eq_getElem?_getD, List.getD_eq_getElem?_getD, List.getElem?_eq_getElem hb, List.getElem?_eq_getElem hj]
  simp only [bump1, Option.getD_some, List.getElem_modify]
  by_cases h : (j : Int) = i
  · rw [if_pos (by omega), if_pos h]
  · rw [if_neg (by omega), if_neg h]; omega
theorem bump_get : ∀ (is : List Int) (o : List Int) (j : Nat), j < o.length → (∀ i, i ∈ is → 0 ≤ i) → is.Nodup → (bump o is).getD j 0 = o.getD j 0 + if (j : Int) ∈ is then 1 else 0
  | [], o, j, _, _, _ => by simp [bump]
  | i :: is, o, j, hj, hi, hn => by
    show (bump (bump1 o i) is).getD j 0 = _
    rw [List.nodup_cons] at hn
    rw [bump_get is (bump1 o i) j (by rw [bump1_len]; exact hj) (fun k hk => hi k (List.mem_cons_of_mem _ hk)) hn.2, bump1_get o i j hj (hi i (List.mem_cons_self ..))]
    by_cases h : (j : Int) = i
    · have h1 : (j : Int) ∉ is := by rw [h]; exact hn.1
      have h2 : (j : Int) ∈ i :: is := by rw [h]; exact List.mem_cons_self ..
      rw [if_pos h, if_neg h1, if_pos h2]; omega
    · rw [if_neg h]
      by_cases h2 : (j : Int) ∈ is
      · rw [if_pos h2, if_pos (List.mem_cons_of_mem _ h2)]; omega
      · rw [if_neg h2, if_neg (by simp [h, h2])]; omega
theorem fst_mem (l : List Tree) (h : 0 < l.length) : fstT l ∈ l := by
  have := bst_lt l h
  simp only [fstT, List.getD_eq_getElem?_getD, List.getElem?_eq_getElem this, Option.getD_some]
  exact List.getElem_mem _
theorem cons_erase_perm {α : Type} : ∀ (l : List α) (n : Nat) (h : n < l.length), (l[n] :: l.eraseIdx n).Perm l
  | [], n, h => by simp at h
  | a :: l, 0, h => by simp
  | a :: l, n + 1, h => by
    simp only [List.getElem_cons_succ, List.eraseIdx_cons_succ]
    exact (List.Perm.swap a _ _).trans ((cons_erase_perm l n (by simpa using h)).cons a)
theorem rest_perm (l : List Tree) (h : 0 < l.length) : (fstT l :: rest l).Perm l := by
  have hb := bst_lt l h
  have he : fstT l = l[bst l] := by simp [fstT, List.getD_eq_getElem?_getD, List.getElem?_eq_getElem hb]
  rw [he]
  exact cons_erase_perm l _ hb
theorem two_perm (l : List Tree) (h : 1 < l.length) : (fstT l :: fstT (rest l) :: rest (rest l)).Perm l := by
  have h1 := rest_len l (by omega)
  exact ((rest_perm (rest l) (by omega)).cons _).trans (rest_perm l (by omega))
theorem GoodT.step {N : Nat} {s : HS} (hg : GoodT N s) (h : 1 < s.1.length) : GoodT N (stepT s) := by
  have hp := two_perm s.1 h
  generalize ha : fstT s.1 = a at hp
  generalize hb : fstT (rest s.1) = b at hp
  generalize hr : rest (rest s.1) = r at hp
  have hst : stepT s = (r ++ [(a.1 + b.1, a.2 ++ b.2)], bump s.2 (a.2 ++ b.2)) := by simp only [stepT, both, ha, hb, hr]
  have hpf := (hp.map (·.2)).flatten
  simp only [List.map_cons, List.flatten_cons] at hpf
  have hnd := hpf.nodup_iff.2 hg.nodup
  have hln := hpf.length_eq
  rw [hg.all] at hln
  rw [← List.append_assoc] at hnd
  have hnab := (List.nodup_append.1 hnd).1
  have hdis := (List.nodup_append.1 hnd).2.2
  have hmem : ∀ x, x ∈ s.1 ↔ x = a ∨ x = b ∨ x ∈ r := fun x => by rw [← hp.mem_iff]; simp
  have hma := (hmem a).2 (.inl rfl)
  have hmb := (hmem b).2 (.inr (.inl rfl))
  have hmr : ∀ x, x ∈ r → x ∈ s.1 := fun x hx => (hmem x).2 (.inr (.inr hx))
  have hnn : ∀ i, i ∈ a.2 ++ b.2 → 0 ≤ i := by
    intro i hi
    rcases List.mem_append.1 hi with hi | hi
    · exact (hg.sym a hma i hi).1
    · exact (hg.sym b hmb i hi).1
  rw [hst]
  refine ⟨?_, ?_, ?_, ?_, ?_, ?_⟩
  · simp only [bump_len]; exact hg.len
  · simp only [List.map_append, List.map_cons, List.map_nil, List.flatten_append, List.flatten_cons, List.flatten_nil, List.append_nil]
    exact (List.perm_append_comm).nodup_iff.1 hnd
  · simp only [List.map_append, List.map_cons, List.map_nil, List.flatten_append, List.flatten_cons, List.flatten_nil, List.append_nil, List.length_append]
    simp only [List.length_append] at hln; omega
  · intro x hx
    rcases List.mem_append.1 hx with hx | hx
    · exact hg.tree x (hmr x hx)
    · rw [List.mem_singleton] at hx; subst hx
      obtain ⟨a1, a2, a3⟩ := hg.tree a hma
      obtain ⟨b1, b2, b3⟩ := hg.tree b hmb
      refine ⟨by simp [a1], by simp only []; omega, by simp only [List.length_append]; omega⟩
  · intro x hx i hi
    have key : ∀ y, y ∈ s.1 → i ∈ y.2 → 0 ≤ i ∧ i < N ∧ (bump s.2 (a.2 ++ b.2)).getD i.toNat 0 = s.2.getD i.toNat 0 + (if i ∈ a.2 ++ b.2 then 1 else 0) ∧ 0 ≤ s.2.getD i.toNat 0 ∧ s.2.getD i.toNat 0 + 1 ≤ y.2.length := by
      intro y hy hiy
      obtain ⟨k1, k2, k3, k4⟩ := hg.sym y hy i hiy
      refine ⟨k1, k2, ?_, k3, k4⟩
      have hlt : i.toNat < s.2.length := by rw [hg.len]; omega
      have := bump_get (a.2 ++ b.2) s.2 i.toNat hlt hnn hnab
      rwa [Int.toNat_of_nonneg k1] at this
    rcases List.mem_append.1 hx with hx | hx
    · obtain ⟨k1, k2, k3, k4, k5⟩ := key x (hmr x hx) hi
      have hni : i ∉ a.2 ++ b.2 := fun hc => hdis i hc i (by simp only [List.mem_flatten, List.mem_map]; exact ⟨x.2, ⟨x, hx, rfl⟩, hi⟩) rfl
      rw [if_neg hni] at k3
      exact ⟨k1, k2, by simp only [k3]; omega, by simp only [k3]; omega⟩
    · rw [List.mem_singleton] at hx; subst hx
      have hb0 : 0 < b.2.length := List.length_pos_iff.2 (hg.tree b hmb).1
      have ha0 : 0 < a.2.length := List.length_pos_iff.2 (hg.tree a hma).1
      simp only [] at hi
      rcases List.mem_append.1 hi with hi2 | hi2
      · obtain ⟨k1, k2, k3, k4, k5⟩ := key a hma hi2
        rw [if_pos hi] at k3
        exact ⟨k1, k2, by simp only [k3]; omega, by simp only [k3, List.length_append]; omega⟩
      · obtain ⟨k1, k2, k3, k4, k5⟩ := key b hmb hi2
        rw [if_pos hi] at k3
        exact ⟨k1, k2, by simp only [k3]; omega, by simp only [k3, List.length_append]; omega⟩
  · intro j hj
    obtain ⟨x, hx, hjx⟩ := hg.cov j hj
    rcases (hmem x).1 hx with e | e | e
    · exact ⟨_, List.mem_append_right _ (List.mem_singleton.2 rfl), by simp only [List.mem_append]; exact .inl (e ▸ hjx)⟩
    · exact ⟨_, List.mem_append_right _ (List.mem_singleton.2 rfl), by simp only [List.mem_append]; exact .inr (e ▸ hjx)⟩
    · exact ⟨x, List.mem_append_left _ e, hjx⟩

theorem GoodT.bothOk {N : Nat} {s : HS} (hg : GoodT N s) (h : 1 < s.1.length) : (both s.1).2.Nodup ∧ (both s.1).2.length ≤ N ∧ 0 ≤ (fstT s.1).1 ∧ 0 ≤ (fstT (rest s.1)).1 ∧ (both s.1).1 ≤ 100000 * N ∧
    ∀ i, i ∈ (both s.1).2 → 0 ≤ i ∧ i < N ∧ 0 ≤ s.2.getD i.toNat 0 ∧ s.2.getD i.toNat 0 + 1 ≤ N := by
  have hp := two_perm s.1 h
  have hpf := (hp.map (·.2)).flatten
  simp only [List.map_cons, List.flatten_cons] at hpf
  have hnd := hpf.nodup_iff.2 hg.nodup
  have hln := hpf.length_eq
  rw [hg.all] at hln
  rw [← List.append_assoc] at hnd
  have hnab := (List.nodup_append.1 hnd).1
  have hma : fstT s.1 ∈ s.1 := hp.mem_iff.1 (by simp)
  have hmb : fstT (rest s.1) ∈ s.1 := hp.mem_iff.1 (by simp)
  simp only [List.length_append] at hln
  obtain ⟨a1, a2, a3⟩ := hg.tree _ hma
  obtain ⟨b1, b2, b3⟩ := hg.tree _ hmb
  refine ⟨hnab, by simp only [both, List.length_append]; omega, a2, b2, by simp only [both]; omega, ?_⟩
  intro i hi
  rcases List.mem_append.1 hi with hi | hi
  · obtain ⟨k1, k2, k3, k4⟩ := hg.sym _ hma i hi
    exact ⟨k1, k2, k3, by omega⟩
  · obtain ⟨k1, k2, k3, k4⟩ := hg.sym _ hmb i hi
    exact ⟨k1, k2, k3, by omega⟩
theorem bump_take_le {N : Nat} {s : HS} (hg : GoodT N s) (h : 1 < s.1.length) (k : Nat) (i : Int) (hi : i ∈ (both s.1).2) : -1 ≤ (bump s.2 ((both s.1).2.take k)).getD i.toNat 0 ∧ (bump s.2 ((both s.1).2.take k)).getD i.toNat 0 ≤ N := by
  obtain ⟨h1, h2, h3, h4, h5, h6⟩ := hg.bothOk h
  obtain ⟨k1, k2, k3, k4⟩ := h6 i hi
  have hsub : ((both s.1).2.take k).Nodup := h1.sublist (List.take_sublist _ _)
  rw [bump_get _ _ _ (by rw [hg.len]; omega) (fun j hj => (h6 j (List.mem_of_mem_take hj)).1) hsub]
  split <;> omega
/-- The end: one tree, no code longer than it has symbols. -/
theorem GoodT.end_le {N : Nat} {s : HS} (hg : GoodT N s) (h : s.1.length = 1) : ∀ j, j < N → 0 ≤ s.2.getD j 0 ∧ s.2.getD j 0 + 1 ≤ N := by
  intro j hj
  obtain ⟨x, hx, hjx⟩ := hg.cov j hj
  obtain ⟨k1, k2, k3, k4⟩ := hg.sym x hx j hjx
  have hxl : (x.2.length : Int) ≤ N := by
    match hs : s.1, h with
    | [y], _ =>
      rw [hs, List.mem_singleton] at hx
      subst hx
      have := hg.all
      rw [hs] at this
      simp at this; omega
  simp only [Int.toNat_natCast] at k3 k4
  exact ⟨k3, by omega⟩
theorem flat_single {α β : Type} (f : α → β) : ∀ l : List α, (l.map fun x => [f x]).flatten = l.map f
  | [] => rfl
  | x :: l => by simp [flat_single f l]
theorem good0 (l : List Int) (hl : ∀ x, x ∈ l → 0 ≤ x ∧ x ≤ 100000) : GoodT l.length (huff0 l) := by
  have hf : ((initT l l.length).map (·.2)).flatten = (List.range l.length).map fun (j : Nat) => (j : Int) := by
    rw [initT, List.map_map]
    exact flat_single _ _
  have hm : ∀ x, x ∈ initT l l.length → ∃ j, j < l.length ∧ x = (l.getD j 0, [(j : Int)]) := by
    intro x hx
    simp only [initT, List.mem_map, List.mem_range] at hx
    obtain ⟨j, hj, e⟩ := hx
    exact ⟨j, hj, e.symm⟩
  refine ⟨by simp [huff0], ?_, ?_, ?_, ?_, ?_⟩
  · simp only [huff0]
    rw [hf]
    refine List.nodup_iff_pairwise_ne.2 ?_
    rw [List.pairwise_map]
    exact List.nodup_range.imp fun h => by omega
  · simp only [huff0]
    rw [hf]; simp
  · intro x hx
    obtain ⟨j, hj, rfl⟩ := hm x hx
    have := hl (l.getD j 0) (by simp [List.getD_eq_getElem?_getD, hj])
    simp only [List.length_singleton]
    exact ⟨by simp, this.1, by omega⟩
  · intro x hx i hi
    obtain ⟨j, hj, rfl⟩ := hm x hx
    simp only [List.mem_singleton] at hi
    subst hi
    simp only [huff0, Int.toNat_natCast, List.length_singleton]
    have : (List.replicate l.length (0 : Int)).getD j 0 = 0 := by simp [List.getD_eq_getElem?_getD, hj]
    rw [this]
    exact ⟨by omega, by omega, by omega, by omega⟩
  · intro j hj
    exact ⟨(l.getD j 0, [(j : Int)]), by simp only [huff0, initT, List.mem_map, List.mem_range]; exact ⟨j, hj, rfl⟩, by simp⟩
theorem endT_good {N : Nat} : ∀ (n : Nat) (s : HS), s.1.length = n + 1 → GoodT N s → GoodT N (endT s) ∧ (endT s).1.length = 1
  | 0, s, hn, hg => by rw [endT_one s (by omega)]; exact ⟨hg, hn⟩
  | n + 1, s, hn, hg => by
    rw [endT_step s (by omega)]
    exact endT_good n (stepT s) (by rw [stepT_len s (by omega)]; omega) (hg.step (by omega))
theorem huff_len (l : List Int) (h0 : 0 < l.length) (hl : ∀ x, x ∈ l → 0 ≤ x ∧ x ≤ 100000) : (huff l).length = l.length := by
  obtain ⟨n, hn⟩ : ∃ n, l.length = n + 1 := ⟨l.length - 1, by omega⟩
  exact (endT_good n (huff0 l) (by simp [huff0, initT_len, hn]) (good0 l hl)).1.len
theorem huff_le (l : List Int) (h0 : 0 < l.length) (hl : ∀ x, x ∈ l → 0 ≤ x ∧ x ≤ 100000) : ∀ x, x ∈ huff l → 0 ≤ x ∧ x + 1 ≤ l.length := by
  obtain ⟨n, hn⟩ : ∃ n, l.length = n + 1 := ⟨l.length - 1, by omega⟩
  obtain ⟨hg, h1⟩ := endT_good n (huff0 l) (by simp [huff0, initT_len, hn]) (good0 l hl)
  intro x hx
  obtain ⟨j, hj, rfl⟩ := List.getElem_of_mem hx
  have := hg.end_le h1 j (by rw [← huff_len l h0 hl]; exact hj)
  have e : (endT (huff0 l)).2.getD j 0 = (huff l)[j] := by simp [huff, List.getD_eq_getElem?_getD] at hj ⊢; simp [hj]
  rw [e] at this
  exact this
theorem bump1_set (o : List Int) (j : Nat) (hj : j < o.length) : o.set j (o[j] + 1) = bump1 o (j : Int) := by
  apply List.ext_getElem
  · simp [bump1]
  · intro n h1 h2
    simp only [bump1, List.getElem_modify, List.getElem_set, Int.toNat_natCast]
    by_cases h : j = n
    · subst h; simp
    · simp [h]
end Go.Proofs.Ytckjogpdnkocbaa.Den
namespace Go.Proofs.Ytckjogpdnkocbaa.Den
open Go.Proofs
set_option maxHeartbeats 400000
set_option maxRecDepth 20000
/-- Rows of trees. -/
def rowT (t : Int × List Int) : List A := [.int .i64 t.1, .sl (rowsI t.2)]
def rowsT (l : List (Int × List Int)) : List (List A) := l.map rowT
def zeroT : List A := [.int .i64 0, .sl []]
/-- Behind one of the first n being taken out. -/
def delR (rows : List (List A)) (i n : Nat) : List (List A) := rows.take i ++ (rows.take n).drop (i + 1) ++ [zeroT] ++ rows.drop n
theorem del_list {α : Type} (t1 t2 d : List α) (z : α) (i m : Nat) (h1 : t1.length = i) (h2 : t2.length = m) :
    (t1 ++ (t2 ++ d)).take (i + m) ++ (List.replicate (i + 1 + m - (i + m)) z ++ (t1 ++ (t2 ++ d)).drop (i + 1 + m)) = t1 ++ t2 ++ [z] ++ d.drop 1 := by
  have hl : (t1 ++ t2).length = i + m := by rw [List.length_append, h1, h2]
  rw [← List.append_assoc t1 t2 d, List.take_left' hl, List.drop_append, hl, List.drop_of_length_le (by omega), show i + 1 + m - (i + m) = 1 by omega]
  simp
theorem delete_den (rows : List (List A)) (i n b ver : Nat) (H : Heap) (hb : H[b]? = some (.vec ver 2 rows)) (hi : i < n) (hn : n ≤ rows.length) (hl : rows.length ≤ 1048576) (hs : szOk 2 rows = true) :
    callω Try.prog cf 44 [.own b ver 0 n, .int .i64 i, .int .i64 ((i : Int) + 1)] H = some (.own b ver 0 (n - 1), H.set b (.vec ver 2 (delR rows i n))) := by
  have hbl : b < H.length := (List.getElem?_eq_some_iff.1 hb).1
  have hb2 : H[b] = .vec ver 2 rows := (List.getElem?_eq_some_iff.1 hb).2
  obtain ⟨m, rfl⟩ : ∃ m, n = i + 1 + m := ⟨n - (i + 1), by omega⟩
  refine call_out Try.func44 rfl rfl rfl ?_; simp only [Try.f44]
  simp (disch := first | omega | (simp <;> omega) | fail) [hb2, hbl]
  refine Out_if (fun hc => ?_) (fun hc => ?_)
  · simp at hc; omega
  simp (disch := first | omega | (simp <;> omega) | fail) [hb2, hbl]
  refine Out_draw pd44_5 ?_
  simp (disch := first | omega | (simp <;> omega) | fail) [hb2, hbl]
  have hml : (List.take m (List.drop (i + 1) rows)).length = m := by simp; omega
  have hH : (H ++ [.vec 0 0 []])[b]? = some (.vec ver 2 rows) := by rw [List.getElem?_append_left hbl, hb]
  have hap := apK_room ⟨2, 32, true, none, none, false, [(0, 3), (1, 22)], some [.int .i64 0, .slice none 0 0]⟩ 2 rows (List.take m (List.drop (i + 1) rows)) b ver 0 i (H ++ [.vec 0 0 []]) hH (by omega) (.inl rfl) (by decide) (by decide) (by decide) (szOk_take _ (szOk_drop _ hs))
  rw [hml, Nat.zero_add] at hap
  simp (disch := first | omega | (simp <;> omega) | fail) [hap, hb2, hbl]
  rw [del_list _ _ _ _ i m (by simp; omega) hml, List.drop_drop, delR, List.drop_take, show i + 1 + m - (i + 1) = m by omega, show i + m + 1 = i + 1 + m by omega]
  rfl

theorem lightest_den (l : List (Int × List Int)) (rows : List (List A)) (hp b ver : Nat) (H : Heap) (hbp : b < hp) (hh : H[hp]? = some (.var [.own b ver 0 l.length])) (hb : H[b]? = some (.vec ver 2 rows)) (hl0 : 0 < l.length) (hr : rows.take l.length = rowsT l) (hn : l.length ≤ rows.length) (hl : rows.length ≤ 1048576) (hs : szOk 2 rows = true) :
    callω Try.prog cf 43 [.ptr hp 0] H = some (.agg (rowT (fstT l)), (H.set b (.vec ver 2 (delR rows (bst l) l.length))).set hp (.var [.own b ver 0 (l.length - 1)])) := by
  have hhl : hp < H.length := (List.getElem?_eq_some_iff.1 hh).1
  have hh2 : H[hp] = .var [.own b ver 0 l.length] := (List.getElem?_eq_some_iff.1 hh).2
  have hbl : b < H.length := (List.getElem?_eq_some_iff.1 hb).1
  have hb2 : H[b] = .vec ver 2 rows := (List.getElem?_eq_some_iff.1 hb).2
  have hrow : ∀ i (hi : i < l.length), rows[i]'(by omega) = rowT (l.getD i default) := by
    intro i hi
    have : (rows.take l.length)[i]? = some (rowT (l.getD i default)) := by rw [hr]; simp [rowsT, hi]
    rw [List.getElem?_take_of_lt hi] at this
    exact (List.getElem?_eq_some_iff.1 this).2
  unfold fstT bst
  refine call_out Try.func43 rfl rfl rfl ?_; simp only [Try.f43]
  simp (disch := first | omega | (simp <;> omega) | fail) [hhl, hh2]
  refine Out.mono (Out_iter (fun (i : Nat) env H' => ∃ G : Heap, H' = H ++ .vec 0 0 [] :: .var [.int .i64 0, .own H.length 0 0 0] :: G ∧ i ≤ l.length ∧ get env 0 = .ptr hp 0 ∧ get env 1 = .ptr (H.length + 1) 0 ∧ get env 2 = .int .i64 (lgts l i) ∧ get env 6 = .own b ver 0 l.length ∧ get env 7 = .int .i64 l.length ∧ get env 8 = .int .i64 i) (fun i => l.length - i)
    (fun e env H' => ∃ G : Heap, H' = H ++ .vec 0 0 [] :: .var [.int .i64 0, .own H.length 0 0 0] :: G ∧ e = .exit 0 ∧ get env 0 = .ptr hp 0 ∧ get env 1 = .ptr (H.length + 1) 0 ∧ get env 2 = .int .i64 (lgts l l.length)) ?_ 0 _ _ (by simp [hhl, hh2, lgts])) ?_
  · rintro i env H' ⟨G, rfl, hi, h0, h1, h2, h6, h7, h8⟩
    simp (disch := first | omega | (simp <;> omega) | fail) [h6, h7, h8]
    refine Out_if (fun hc => ?_) (fun hc => ?_)
    · have hlt : i < l.length := by simpa using hc
      have hri := hrow i hlt
      have hbi := lgts_lt l hl0 i hi
      have hrb := hrow _ hbi
      simp (disch := first | omega | (simp <;> omega) | fail) [h0, h1, h2, h6, h7, h8, hhl, hh2, hbl, hb2, hri, hrb, rowT]
      refine Out_draw pd43_5 ?_
      simp (disch := first | omega | (simp <;> omega) | fail) [h0, h1, h2, h6, h7, h8, hhl, hh2, hbl, hb2, hri, hrb, rowT]
      refine Out_if (fun hc => ?_) (fun hc => ?_)
      · have hc2 : l[i].1 < l[lgts l i].1 := by simpa using hc
        simp (disch := first | omega | (simp <;> omega) | fail) [h0, h1, h2, h6, h7, h8]
        exact ⟨i + 1, by omega, by omega, by simp [lgts, lgt, hlt, hbi, hc2], by omega⟩
      · have hc2 : ¬ l[i].1 < l[lgts l i].1 := by simpa using hc
        simp (disch := first | omega | (simp <;> omega) | fail) [h0, h1, h2, h6, h7, h8]
        exact ⟨i + 1, by omega, by omega, by simp [lgts, lgt, hlt, hbi, hc2], by omega⟩
    · have : i = l.length := by simp at hc; omega
      subst this
      simp (disch := first | omega | (simp <;> omega) | fail) [h0, h1, h2]
  · rintro e env H' ⟨G, rfl, rfl, h0, h1, h2⟩
    have hbi := lgts_lt l hl0 l.length (Nat.le_refl _)
    have hrb := hrow _ hbi
    have hH : ∀ T : Heap, (H ++ T)[b]? = some (.vec ver 2 rows) := fun T => by rw [List.getElem?_append_left hbl, hb]
    have hne : b ≠ hp := by omega
    have hlo : b < hp + 1 := by omega
    simp (disch := first | omega | (simp <;> omega) | fail) [h0, h1, h2, hhl, hh2, hbl, hb2, hrb, rowT]
    rw [delete_den rows _ _ b ver _ (hH _) hbi hn hl hs]
    simp (disch := first | omega | (simp <;> omega) | fail) [h0, h1, h2, hhl, hh2, hbl, hb2, hrb, rowT, hne, hlo]
end Go.Proofs.Ytckjogpdnkocbaa.Den
namespace Go.Proofs.Ytckjogpdnkocbaa.Den
open Go.Proofs
set_option maxHeartbeats 1000000
set_option maxRecDepth 20000
theorem rowsT_len (l : List Tree) : (rowsT l).length = l.length := by simp [rowsT]
theorem rowsT_sz (l : List Tree) : szOk 2 (rowsT l) = true := by
  simp [szOk, rowsT, rowT]
theorem rowsI_sz (l : List Int) : szOk 1 (rowsI l) = true := by
  simp [szOk, rowsI]
theorem delR_len (rows : List (List A)) (i n : Nat) (hi : i < n) (hn : n ≤ rows.length) : (delR rows i n).length = rows.length := by
  simp [delR]; omega
theorem delR_sz (rows : List (List A)) (i n : Nat) (hs : szOk 2 rows = true) : szOk 2 (delR rows i n) = true := by
  simp [delR, szOk_take _ hs, szOk_drop _ hs, szOk_drop _ (szOk_take _ hs), zeroT]
theorem delR_take (rows : List (List A)) (l : List Tree) (i : Nat) (hr : rows.take l.length = rowsT l) (hi : i < l.length) (hn : l.length ≤ rows.length) : (delR rows i l.length).take (l.length - 1) = rowsT (l.eraseIdx i) := by
  have e : rows.take i ++ (rows.take l.length).drop (i + 1) = rowsT (l.eraseIdx i) := by
    rw [show rows.take i = (rows.take l.length).take i by rw [List.take_take, Nat.min_eq_left (by omega)], hr, List.eraseIdx_eq_take_drop_succ]
    simp [rowsT]
  have h1 : (rowsT (l.eraseIdx i)).length = l.length - 1 := by rw [rowsT_len, List.length_eraseIdx, if_pos hi]
  unfold delR
  rw [e, List.append_assoc, List.take_left' h1]
theorem bump_step (out : List Int) (is : List Int) (i : Nat) (hi : i < is.length) : bump out (is.take (i + 1)) = bump1 (bump out (is.take i)) is[i] := take_foldl _ _ _ _ hi
theorem rowsI_set (o : List Int) (j : Nat) (hj : j < o.length) (v : Int) : (rowsI o).set j [.int .i64 v] = rowsI (o.set j v) := by
  simp [rowsI, List.map_set]

theorem foldl_max_le (c : Int) : ∀ (l : List Int) (x : Int), x ≤ c → (∀ y, y ∈ l → y ≤ c) → l.foldl maxI x ≤ c
  | [], x, hx, _ => hx
  | y :: l, x, hx, hl => foldl_max_le c l (maxI x y) (by have := hl y (List.mem_cons_self ..); unfold maxI; split <;> omega) (fun z hz => hl z (List.mem_cons_of_mem _ hz))
def okW (l : List Int) : Bool := inR 2 24 l.length && l.all (inR 1 100000)
theorem lengthsOf_no (l : List Int) (hl : l.length ≤ 1048576) (h : okW l = false) : callω Try.prog cf 9 [.sl (rowsI l)] [] = some (.tup [.own 0 0 0 0, .bool false], [.vec 0 0 []]) := by
  have hW := areWeights_den l hl
  rw [← okW, h] at hW
  refine call_out Try.func9 rfl rfl rfl ?_; simp only [Try.f9]
  simp (disch := first | omega | (simp <;> omega) | fail) [hW]
/-- What holds at each round of the second loop. -/
def lenI (l : List Int) (q : Nat) (s : HS) (env : Env) (H : Heap) : Prop := ∃ rows, H[1]? = some (.vec l.length 2 rows) ∧ H[2]? = some (.var [.own 1 l.length 0 s.1.length]) ∧ H[q]? = some (.vec 0 1 (rowsI s.2)) ∧ rows.take s.1.length = rowsT s.1 ∧ s.1.length ≤ rows.length ∧ rows.length = l.length ∧ szOk 2 rows = true ∧
  GoodT l.length s ∧ 0 < s.1.length ∧ endT s = endT (huff0 l) ∧ get env 4 = .ptr 2 0 ∧ get env 7 = .fn 43 [.ptr 2 0] ∧ get env 8 = .own q 0 0 l.length
theorem lengthsOf_den (l : List Int) (hl : l.length ≤ 1048576) (h : okW l = true) : callω Try.prog cf 9 [.sl (rowsI l)] [] = some (.tup [.own 0 0 0 l.length, .bool true], [.vec 0 1 (rowsI (huff l))]) := by
  have hW := areWeights_den l hl
  rw [← okW, h] at hW
  refine call_out Try.func9 rfl rfl rfl ?_; simp only [Try.f9]
  simp (disch := first | omega | (simp <;> omega) | fail) [hW]
  refine Out.mono (Out_iter (fun (i : Nat) env H => ∃ G : Heap, H = .vec 0 0 [] :: .vec i (2 * gv i) (rowsT (initT l i)) :: .var [.own 1 i 0 i] :: G ∧ i ≤ l.length ∧ get env 0 = .sl (rowsI l) ∧ get env 4 = .ptr 2 0 ∧ get env 17 = .sl (rowsI l) ∧ get env 18 = .int .i64 l.length ∧ get env 19 = .int .i64 i) (fun i => l.length - i)
    (fun e env H => ∃ G : Heap, H = .vec 0 0 [] :: .vec l.length (2 * gv l.length) (rowsT (initT l l.length)) :: .var [.own 1 l.length 0 l.length] :: G ∧ e = .exit 0 ∧ get env 0 = .sl (rowsI l) ∧ get env 4 = .ptr 2 0) ?_ 0 _ _ (by simp [gv, rowsT, initT])) ?_
  · rintro i env H ⟨G, rfl, hi, h0, h4, h17, h18, h19⟩
    simp (disch := first | omega | (simp <;> omega) | fail) [h17, h18, h19]
    refine Out_if (fun hc => ?_) (fun hc => ?_)
    · have hlt : i < l.length := by simpa using hc
      have hap := fun h => apK_push ⟨2, 32, true, none, none, false, [(0, 3), (1, 22)], some [.int .i64 0, .slice none 0 0]⟩ i (rowsT (initT l i)) [.int .i64 l[i], .sl [[.int .i64 i]]] 1 h (by rw [rowsT_len, initT_len]) (by decide) (by decide) (by decide) (by simp) (by simp; omega)
      simp (disch := first | omega | (simp <;> omega) | fail) [h0, h4, h17, h18, h19, hap]
      exact ⟨i + 1, by omega, ⟨⟨rfl, by simp, by rw [initT_succ l i hlt]; simp [rowsT, rowT, rowsI]⟩, rfl⟩, by omega, by omega⟩
    · have : i = l.length := by simp at hc; omega
      subst this
      simp (disch := first | omega | (simp <;> omega) | fail) [h0, h4]
  · rintro e env H ⟨G, rfl, rfl, h0, h4⟩
    simp (disch := first | omega | (simp <;> omega) | fail) [h0, h4]
    rw [show List.replicate l.length [A.int .i64 0] = rowsI (huff0 l).2 by simp [rowsI, huff0]]
    have hn : 1 < l.length ∧ l.length ≤ 24 := by
      have := h; simp [okW, inR] at this; omega
    have hq : 3 ≤ G.length + 3 := by omega
    have hw : ∀ x, x ∈ l → 0 ≤ x ∧ x ≤ 100000 := by
      intro x hx
      have := h
      simp [okW, inR] at this
      have := this.2 x hx
      omega
    generalize hqq : G.length + 1 + 1 + 1 = q at *
    refine Out.mono (Out_iter (lenI l q) (fun s => s.1.length) (fun e env H => e = .exit 2 ∧ q < H.length ∧ H[q]? = some (.vec 0 1 (rowsI (huff l))) ∧ get env 8 = .own q 0 0 l.length) ?_ (huff0 l) _ _ ?_) ?_
    · rintro s env H ⟨rows, e1, e2, eq, hr, hrl, hrN, hs, hg, hs0, hend, h4, h7, h8⟩
      obtain ⟨hHq, xq⟩ := List.getElem?_eq_some_iff.1 eq
      obtain ⟨b2, x2⟩ := List.getElem?_eq_some_iff.1 e2
      obtain ⟨b1, x1⟩ := List.getElem?_eq_some_iff.1 e1
      simp (disch := first | omega | (simp <;> omega) | fail) [h4, x2]
      refine Out_if (fun hc => ?_) (fun hc => ?_)
      · have h1s : 1 < s.1.length := by simp at hc; omega
        have hbi := bst_lt s.1 hs0
        simp (disch := first | omega | (simp <;> omega) | fail) [h7]
        rw [lightest_den s.1 rows 2 1 l.length H (by omega) e2 e1 hs0 hr hrl (by omega) hs]
        generalize hR1 : delR rows (bst s.1) s.1.length = rows1
        have hl1 := rest_len s.1 hs0
        have hr1 : rows1.take (rest s.1).length = rowsT (rest s.1) := by rw [hl1, ← hR1]; exact delR_take rows s.1 _ hr hbi hrl
        have hrl1 : rows1.length = l.length := by rw [← hR1, delR_len _ _ _ hbi hrl, hrN]
        have hs1 : szOk 2 rows1 = true := by rw [← hR1]; exact delR_sz _ _ _ hs
        rw [← hl1]
        generalize hH1 : (H.set 1 (.vec l.length 2 rows1)).set 2 (.var [.own 1 l.length 0 (rest s.1).length]) = H1
        have f1 : H1[1]? = some (.vec l.length 2 rows1) := by rw [← hH1]; simp [b1]
        have f2 : H1[2]? = some (.var [.own 1 l.length 0 (rest s.1).length]) := by rw [← hH1]; simp [b2]
        have fq : H1[q]? = some (.vec 0 1 (rowsI s.2)) := by rw [← hH1]; simp (disch := first | omega | (simp <;> omega) | fail) [xq]
        have fl : H1.length = H.length := by rw [← hH1]; simp
        simp (disch := first | omega | (simp <;> omega) | fail) [rowT, h7]
        have hbi2 := bst_lt (rest s.1) (by omega)
        rw [lightest_den (rest s.1) rows1 2 1 l.length (H1 ++ _) (by omega) (by rw [List.getElem?_append_left (by omega), f2]) (by rw [List.getElem?_append_left (by omega), f1]) (by omega) hr1 (by omega) (by omega) hs1]
        generalize hR2 : delR rows1 (bst (rest s.1)) (rest s.1).length = rows2
        have hl2 := rest_len (rest s.1) (by omega)
        have hr2 : rows2.take (rest (rest s.1)).length = rowsT (rest (rest s.1)) := by rw [hl2, ← hR2]; exact delR_take rows1 (rest s.1) _ hr1 hbi2 (by omega)
        have hrl2 : rows2.length = l.length := by rw [← hR2, delR_len _ _ _ hbi2 (by omega), hrl1]
        have hs2 : szOk 2 rows2 = true := by rw [← hR2]; exact delR_sz _ _ _ hs1
        rw [← hl2]
        generalize hH2 : List.set (List.set (H1 ++ _) 1 (.vec l.length 2 rows2)) 2 (.var [.own 1 l.length 0 (rest (rest s.1)).length]) = H2
        have g1 : H2[1]? = some (.vec l.length 2 rows2) := by rw [← hH2]; simp (disch := first | omega | (simp <;> omega) | fail) []
        have g2 : H2[2]? = some (.var [.own 1 l.length 0 (rest (rest s.1)).length]) := by rw [← hH2]; simp (disch := first | omega | (simp <;> omega) | fail) []
        have gq : H2[q]? = some (.vec 0 1 (rowsI s.2)) := by
          obtain ⟨y1, y2⟩ := List.getElem?_eq_some_iff.1 fq
          rw [← hH2]; simp (disch := first | omega | (simp <;> omega) | fail) [y2]
        have ga : H2[H1.length + 1]? = some (.var (rowT (fstT s.1))) := by rw [← hH2]; simp (disch := first | omega | (simp <;> omega) | fail) [rowT]
        have gl : H2.length = H.length + 2 := by rw [← hH2]; simp [fl]
        have hcat := concat_den [rowsI (fstT s.1).2, rowsI (fstT (rest s.1)).2] (by simp [rowsI_sz]) (by have := (hg.bothOk h1s).2.1; simp [both] at this ⊢; omega) (by simp)
        simp at hcat
        obtain ⟨gb, ga⟩ := List.getElem?_eq_some_iff.1 ga
        obtain ⟨ok1, ok2, ok3, ok4, ok5, ok6⟩ := hg.bothOk h1s
        simp only [both] at ok5
        simp (disch := first | omega | (simp <;> omega) | fail) [rowT, h7]
        refine Out_draw pd9_14 ?_
        simp (disch := first | omega | (simp <;> omega) | fail) [rowT, h7, hcat, ga]
        generalize hB : both s.1 = B at *
        have hB1 : (fstT s.1).1 + (fstT (rest s.1)).1 = B.1 := by rw [← hB]; rfl
        have hB2 : rowsI (fstT s.1).2 ++ rowsI (fstT (rest s.1)).2 = rowsI B.2 := by rw [← hB]; simp [both, rowsI]
        have hB3 : ((fstT s.1).2.length : Int) + (fstT (rest s.1)).2.length = B.2.length := by rw [← hB]; simp [both]
        rw [hB1, hB2, hB3]
        obtain ⟨y1, y1'⟩ := List.getElem?_eq_some_iff.1 g1
        obtain ⟨y2, y2'⟩ := List.getElem?_eq_some_iff.1 g2
        obtain ⟨yq, yq'⟩ := List.getElem?_eq_some_iff.1 gq
        refine Out.mono (Out_iter (fun (i : Nat) env (H' : Heap) => i ≤ B.2.length ∧ H'[1]? = some (.vec l.length 2 rows2) ∧ H'[2]? = some (.var [.own 1 l.length 0 (rest (rest s.1)).length]) ∧ H'[q]? = some (.vec 0 1 (rowsI (bump s.2 (B.2.take i)))) ∧ H'[H2.length + 5]? = some (.var [.int .i64 B.1, .sl (rowsI B.2)]) ∧
            get env 4 = .ptr 2 0 ∧ get env 7 = .fn 43 [.ptr 2 0] ∧ get env 8 = .own q 0 0 l.length ∧ get env 11 = .ptr (H2.length + 5) 0 ∧ get env 56 = .sl (rowsI B.2) ∧ get env 57 = .int .i64 B.2.length ∧ get env 58 = .int .i64 i) (fun i => B.2.length - i)
          (fun e env H' => e = .exit 4 ∧ H'[1]? = some (.vec l.length 2 rows2) ∧ H'[2]? = some (.var [.own 1 l.length 0 (rest (rest s.1)).length]) ∧ H'[q]? = some (.vec 0 1 (rowsI (bump s.2 B.2))) ∧ H'[H2.length + 5]? = some (.var [.int .i64 B.1, .sl (rowsI B.2)]) ∧
            get env 4 = .ptr 2 0 ∧ get env 7 = .fn 43 [.ptr 2 0] ∧ get env 8 = .own q 0 0 l.length ∧ get env 11 = .ptr (H2.length + 5) 0) ?_ 0 _ _ ?_) ?_
        · rintro i env H' ⟨hi, z1, z2, zq, zp, h4, h7, h8, h11, h56, h57, h58⟩
          simp (disch := first | omega | (simp <;> omega) | fail) [h56, h57, h58]
          refine Out_if (fun hc => ?_) (fun hc => ?_)
          · have hlt : i < B.2.length := by simpa using hc
            have hmem : B.2[i] ∈ B.2 := List.getElem_mem _
            obtain ⟨m1, m2, m3, m4⟩ := ok6 _ hmem
            have hble := bump_take_le hg h1s i B.2[i] (by rw [hB]; exact hmem)
            rw [hB] at hble
            have hbs := bump_step s.2 B.2 i hlt
            have hO2 : (bump s.2 (B.2.take i)).length = l.length := by rw [bump_len, hg.len]
            generalize bump s.2 (B.2.take i) = o at *
            obtain ⟨wq, wq'⟩ := List.getElem?_eq_some_iff.1 zq
            generalize hJ : B.2[i] = jj at *
            obtain ⟨j, rfl⟩ : ∃ j : Nat, jj = j := ⟨jj.toNat, by omega⟩
            simp at hble
            have hj : j < o.length := by omega
            simp [hj] at hble
            simp (disch := first | omega | (simp <;> omega) | fail) [h4, h7, h8, h11, h56, h57, h58, wq', hJ, hO2]
            exact ⟨i + 1, by omega, by omega, (List.getElem?_eq_some_iff.1 z1).2, (List.getElem?_eq_some_iff.1 z2).2, by rw [rowsI_set o j hj, bump1_set o j hj, hbs], zp, by omega⟩
          · have : i = B.2.length := by simp at hc; omega
            subst this
            simp (disch := first | omega | (simp <;> omega) | fail) [h4, h7, h8, h11, z1, z2, zq, zp]
        · simp (disch := first | omega | (simp <;> omega) | fail) [y1', y2', yq', bump, h4, h7, h8]
        · rintro e env H' ⟨rfl, z1, z2, zq, zp, h4, h7, h8, h11⟩
          obtain ⟨w1, w1'⟩ := List.getElem?_eq_some_iff.1 z1
          obtain ⟨w2, w2'⟩ := List.getElem?_eq_some_iff.1 z2
          obtain ⟨wq, wq'⟩ := List.getElem?_eq_some_iff.1 zq
          obtain ⟨wp, wp'⟩ := List.getElem?_eq_some_iff.1 zp
          simp (disch := first | omega | (simp <;> omega) | fail) [h4, h11, w2', wp', w1']
          have hst : stepT s = (rest (rest s.1) ++ [B], bump s.2 B.2) := by simp only [stepT, hB]
          have hk : (rows2.take (rest (rest s.1)).length).length = (rest (rest s.1)).length := by simp; omega
          refine ⟨rest (rest s.1) ++ [B], by simp; omega, bump s.2 B.2, rows2.take (rest (rest s.1)).length ++ [.int .i64 B.1, .sl (rowsI B.2)] :: rows2.drop ((rest (rest s.1)).length + 1), by simp (disch := first | omega | (simp <;> omega) | fail) [], by simp (disch := first | omega | (simp <;> omega) | fail) [], by simp (disch := first | omega | (simp <;> omega) | fail) [wq'], ?_, by simp; omega, by simp; omega, by simp [szOk_take _ hs2, szOk_drop _ hs2], by rw [← hst]; exact hg.step h1s, by simp, by rw [← hst, ← endT_step s h1s, hend], by simp [h4], by simp [h7], by simp [h8]⟩
          rw [hr2]
          simp only [List.length_append, List.length_singleton]
          rw [show (rest (rest s.1)).length + 1 = (rowsT (rest (rest s.1))).length + 1 by rw [rowsT_len], List.take_length_add_append]
          simp [rowsT, rowT]
      · have h1s : ¬ 1 < s.1.length := by simp at hc; omega
        simp (disch := first | omega | (simp <;> omega) | fail) [h8, xq]
        simp only [huff]
        rw [← hend, endT_one s h1s]
        exact ⟨hHq, rfl⟩
    · subst hqq
      have hgv : gv l.length = 1 := by unfold gv; rw [if_neg (by omega)]
      have hf1 : (huff0 l).1 = initT l l.length := rfl
      have hil := initT_len l l.length
      have h1 : 1 ≤ l.length := by omega
      have htk : (rowsT (initT l l.length)).take l.length = rowsT (initT l l.length) := List.take_of_length_le (by rw [rowsT_len, hil]; omega)
      exact ⟨rowsT (initT l l.length), by simp [hgv], by simp [hf1, hil], by simp, by simp [hf1, hil, htk], by simp [hf1, rowsT_len], by simp [rowsT_len, hil], rowsT_sz _, good0 l hw, by simp [hf1, hil]; omega, rfl, by simp [h4], by simp, by simp⟩
    · rintro e env H ⟨rfl, hqH, hq, h8⟩
      obtain ⟨w1, w1'⟩ := List.getElem?_eq_some_iff.1 hq
      have hhl := huff_len l (by omega) hw
      have hhe := huff_le l (by omega) hw
      have htk : List.take l.length (rowsI (huff l)) = rowsI (huff l) := List.take_of_length_le (by simp [hhl])
      simp (disch := first | omega | (simp <;> omega) | fail) [h8, w1', htk]
      generalize huff l = o at *
      cases o with
      | nil => simp at hhl; omega
      | cons x xs =>
        have hmx := max_den x xs (by simp at hhl; omega)
        have h23 : xs.foldl maxI x ≤ 23 := foldl_max_le 23 xs x (by have := hhe x (by simp); omega) (fun y hy => by have := hhe y (by simp [hy]); omega)
        simp (disch := first | omega | (simp <;> omega) | fail) [hmx, h8, w1', htk, h23]
        trace_state
end Go.Proofs.Ytckjogpdnkocbaa.Den
namespace Go.Proofs.Ytckjogpdnkocbaa.Den
open Go.Proofs
set_option maxHeartbeats 1000000
set_option maxRecDepth 20000
attribute [simp] rowsT_len rowsT_sz rowsI_sz
@[simp] theorem rowsT_get (L : List Tree) (i : Nat) (h : i < (rowsT L).length) : (rowsT L)[i] = rowT (L[i]'(by simpa using h)) := by simp [rowsT]
@[simp] theorem rowsT_get? (L : List Tree) (i : Nat) : (rowsT L)[i]? = L[i]?.map rowT := by simp [rowsT]
@[simp] theorem rowsI_get? (L : List Int) (i : Nat) : (rowsI L)[i]? = L[i]?.map fun x => [A.int .i64 x] := by simp [rowsI]
theorem spec_best (L : List Tree) (b ver : Nat) (H : Heap) (hb : H[b]? = some (.vec ver 2 (rowsT L))) (hL : 0 < L.length) (hl : L.length ≤ 1048576) (env : Env) (h5 : get env 5 = .own b ver 0 L.length) (h10 : get env 10 = .int .i64 0) (h44 : get env 44 = .own b ver 0 L.length) (h45 : get env 45 = .int .i64 L.length) (h46 : get env 46 = .int .i64 0) :
    Out (execω Try.prog cf 0 108 (lp Try.f7 3) env H) fun e env' H' => e = .exit 6 ∧ (∃ G : Heap, H' = H ++ G) ∧ get env' 10 = .int .i64 (bst L) ∧ get env' 5 = get env 5 ∧ get env' 4 = get env 4 ∧ get env' 8 = get env 8 ∧ get env' 9 = get env 9 := by
  obtain ⟨hbl, hb2⟩ := List.getElem?_eq_some_iff.1 hb
  simp only [lp, loops, Try.f7, List.nil_append, List.append_nil, List.getD_cons_zero, List.getD_cons_succ, List.cons_append]
  refine Out_iter (fun (i : Nat) env' (H' : Heap) => i ≤ L.length ∧ (∃ G : Heap, H' = H ++ G) ∧ get env' 10 = .int .i64 (lgts L i) ∧ get env' 5 = .own b ver 0 L.length ∧ get env' 4 = get env 4 ∧ get env' 8 = get env 8 ∧ get env' 9 = get env 9 ∧ get env' 44 = .own b ver 0 L.length ∧ get env' 45 = .int .i64 L.length ∧ get env' 46 = .int .i64 i) (fun i => L.length - i) _ ?_ 0 env H ?_
  · rintro i env' H' ⟨hi, ⟨G, rfl⟩, k10, k5, k4, k8, k9, k44, k45, k46⟩
    simp (disch := first | omega | (simp <;> omega) | fail) [k44, k45, k46]
    refine Out_if (fun hc => ?_) (fun hc => ?_)
    · have hlt : i < L.length := by simpa using hc
      have hbi := lgts_lt L hL i hi
      simp (disch := first | omega | (simp <;> omega) | fail) [k44, k45, k46, hb2, rowsT_len, rowT]
      refine Out_draw pd7_19 ?_
      simp (disch := first | omega | (simp <;> omega) | fail) [k44, k45, k46, k10, k5, hb2, rowsT_len, rowT]
      refine Out_if (fun hc => ?_) (fun hc => ?_)
      · have hc2 : L[i].1 < L[lgts L i].1 := by simpa using hc
        simp (disch := first | omega | (simp <;> omega) | fail) [k44, k45, k46, k4, k5, k8, k9]
        exact ⟨i + 1, by omega, by omega, by simp [lgts, lgt, hlt, hbi, hc2], by omega⟩
      · have hc2 : ¬ L[i].1 < L[lgts L i].1 := by simpa using hc
        simp (disch := first | omega | (simp <;> omega) | fail) [k44, k45, k46, k4, k5, k8, k9, k10]
        exact ⟨i + 1, by omega, by omega, by simp [lgts, lgt, hlt, hbi, hc2], by omega⟩
    · have : i = L.length := by simp at hc; omega
      subst this
      simp (disch := first | omega | (simp <;> omega) | fail) [k10, k5, k4, k8, k9, h5, bst]
  · exact ⟨by omega, ⟨[], by simp⟩, by simp [h10, lgts], h5, rfl, rfl, rfl, h44, h45, h46⟩

theorem spec_bump (N : Nat) (o is : List Int) (mb v : Nat) (H : Heap) (hq : H[1]? = some (.vec 0 1 (rowsI o))) (hm : H[mb]? = some (.vec v 1 (rowsI is))) (hmb : 1 < mb) (ho : o.length = N) (hN : N ≤ 1048576) (hl : is.length ≤ 1048576) (hin : ∀ i, i ∈ is → 0 ≤ i ∧ i < N)
    (hv : ∀ k i, i ∈ is → -1 ≤ (bump o (is.take k)).getD i.toNat 0 ∧ (bump o (is.take k)).getD i.toNat 0 ≤ N) (env : Env) (h4 : get env 4 = .own 1 0 0 N) (h90 : get env 90 = .own mb v 0 is.length) (h91 : get env 91 = .int .i64 is.length) (h92 : get env 92 = .int .i64 0) :
    Out (execω Try.prog cf 0 108 (lp Try.f7 4) env H) fun e env' H' => e = .exit 8 ∧ H' = H.set 1 (.vec 0 1 (rowsI (bump o is))) ∧ get env' 5 = get env 5 ∧ get env' 4 = get env 4 ∧ get env' 8 = get env 8 := by
  obtain ⟨hql, hq2⟩ := List.getElem?_eq_some_iff.1 hq
  obtain ⟨hml, hm2⟩ := List.getElem?_eq_some_iff.1 hm
  simp only [lp, loops, Try.f7, List.nil_append, List.append_nil, List.getD_cons_zero, List.getD_cons_succ, List.cons_append]
  refine Out_iter (fun (i : Nat) env' (H' : Heap) => i ≤ is.length ∧ H' = H.set 1 (.vec 0 1 (rowsI (bump o (is.take i)))) ∧ get env' 5 = get env 5 ∧ get env' 4 = get env 4 ∧ get env' 8 = get env 8 ∧ get env' 90 = .own mb v 0 is.length ∧ get env' 91 = .int .i64 is.length ∧ get env' 92 = .int .i64 i) (fun i => is.length - i) _ ?_ 0 env H ?_
  · rintro i env' H' ⟨hi, rfl, k5, k4, k8, k90, k91, k92⟩
    simp (disch := first | omega | (simp <;> omega) | fail) [k90, k91, k92]
    refine Out_if (fun hc => ?_) (fun hc => ?_)
    · have hlt : i < is.length := by simpa using hc
      have hmem : is[i] ∈ is := List.getElem_mem _
      obtain ⟨m1, m2⟩ := hin _ hmem
      have hble := hv i _ hmem
      have hbs := bump_step o is i hlt
      have hO2 : (bump o (is.take i)).length = N := by rw [bump_len, ho]
      generalize bump o (is.take i) = o' at *
      generalize hJ : is[i] = jj at *
      obtain ⟨j, rfl⟩ : ∃ j : Nat, jj = j := ⟨jj.toNat, by omega⟩
      simp at hble
      have hj : j < o'.length := by omega
      simp [hj] at hble
      have hne : mb ≠ 1 := by omega
      have hne2 : 1 ≠ mb := by omega
      simp (disch := first | omega | (simp <;> omega) | fail) [k4, k5, k8, h4, k90, k91, k92, hm2, hJ, hO2, hne2]
      exact ⟨i + 1, by omega, by omega, by rw [rowsI_set o' j hj, bump1_set o' j hj, hbs], by omega⟩
    · have : i = is.length := by simp at hc; omega
      subst this
      simp (disch := first | omega | (simp <;> omega) | fail) [k5, k4, k8]
  · refine ⟨by omega, ?_, rfl, rfl, rfl, h90, h91, h92⟩
    simp [bump]
    rw [← hq2, List.set_getElem_self]

/-- The trees, the weight and the symbols behind k of the two. -/
def lsK (l : List Tree) : Nat → List Tree
  | 0 => l
  | k + 1 => rest (lsK l k)
def mwK (l : List Tree) : Nat → Int
  | 0 => 0
  | k + 1 => mwK l k + (fstT (lsK l k)).1
def mpK (l : List Tree) : Nat → List Int
  | 0 => []
  | k + 1 => mpK l k ++ (fstT (lsK l k)).2
theorem get_bst (l : List Tree) (h : bst l < l.length) : l[bst l] = fstT l := by
  simp [fstT, List.getD_eq_getElem?_getD, List.getElem?_eq_getElem h]
theorem lsK_len (l : List Tree) : ∀ k, k ≤ l.length → (lsK l k).length = l.length - k
  | 0, _ => rfl
  | k + 1, h => by
    have := lsK_len l k (by omega)
    rw [lsK, rest_len _ (by omega)]; omega
theorem mwK_ok {N : Nat} {s : HS} (hg : GoodT N s) (hs : 1 < s.1.length) (k : Nat) (hk : k < 2) : 0 ≤ mwK s.1 k + (fstT (lsK s.1 k)).1 ∧ mwK s.1 k + (fstT (lsK s.1 k)).1 ≤ 100000 * N ∧ 0 < (fstT (lsK s.1 k)).2.length ∧ (mpK s.1 k).length + (fstT (lsK s.1 k)).2.length ≤ N := by
  obtain ⟨h1, h2, h3, h4, h5, h6⟩ := hg.bothOk hs
  have hr := rest_len s.1 (by omega)
  have hp := two_perm s.1 hs
  have ha := List.length_pos_iff.2 (hg.tree _ (hp.mem_iff.1 (List.mem_cons_self ..))).1
  have hb := List.length_pos_iff.2 (hg.tree _ (hp.mem_iff.1 (List.mem_cons_of_mem _ (List.mem_cons_self ..)))).1
  simp only [both, List.length_append] at h2 h5
  match k, hk with
  | 0, _ => simp only [mwK, lsK, mpK, List.length_nil]; omega
  | 1, _ => simp only [mwK, lsK, mpK, List.nil_append]; omega
/-- What holds behind k of the two. -/
def twoI (N : Nat) (s : HS) (mb mp k : Nat) (env : Env) (H : Heap) : Prop := ∃ b ver mv, k ≤ 2 ∧ H[b]? = some (.vec ver 2 (rowsT (lsK s.1 k))) ∧ get env 5 = .own b ver 0 (lsK s.1 k).length ∧ H[mp]? = some (.var [.int .i64 (mwK s.1 k), .own mb mv 0 (mpK s.1 k).length]) ∧
  H[mb]? = some (.vec mv (gv k) (rowsI (mpK s.1 k))) ∧ H[1]? = some (.vec 0 1 (rowsI s.2)) ∧ get env 4 = .own 1 0 0 N ∧ get env 8 = .ptr mp 0 ∧ get env 9 = .int .i64 k ∧ 1 < b ∧ 1 < mb ∧ 1 < mp ∧ mb ≠ mp ∧ b ≠ mb ∧ b ≠ mp

theorem spec_two (N : Nat) (s : HS) (hg : GoodT N s) (hs : 1 < s.1.length) (hN : s.1.length ≤ 24) (hN2 : N ≤ 24) (mb mp k : Nat) (hk : k < 2) (env : Env) (H : Heap) (hI : twoI N s mb mp k env H) (Q : X → Env → Heap → Prop) (hQ : ∀ env' H', twoI N s mb mp (k + 1) env' H' → Q .normal env' H') :
    ∀ c, lp Try.f7 2 = .loop c → Out (execω Try.prog cf 0 108 c env H) Q := by
  intro c hc
  simp only [lp, loops, Try.f7, List.nil_append, List.append_nil, List.getD_cons_zero, List.getD_cons_succ, List.cons_append, Code.loop.injEq] at hc
  subst hc
  obtain ⟨b, ver, mv, hk2, eb, h5, ep, em, e1, h4, h8, h9, n1, n2, n6, n3, n4, n5⟩ := hI
  obtain ⟨bb, bb'⟩ := List.getElem?_eq_some_iff.1 eb
  obtain ⟨bp, bp'⟩ := List.getElem?_eq_some_iff.1 ep
  obtain ⟨bm, bm'⟩ := List.getElem?_eq_some_iff.1 em
  obtain ⟨b1, b1'⟩ := List.getElem?_eq_some_iff.1 e1
  simp (disch := first | omega | (simp <;> omega) | fail) [h9]
  refine Out_if (fun hc => ?_) (fun hc => ?_)
  · have hLl := lsK_len s.1 k (by omega)
    have hL0 : 0 < (lsK s.1 k).length := by omega
    have hbl := bst_lt _ hL0
    obtain ⟨w1, w2, w3, w4⟩ := mwK_ok hg hs k hk
    have hgk : gv k = 1 ∨ gv k = 0 := by unfold gv; split <;> simp
    simp (disch := first | omega | (simp <;> omega) | fail) [h5]
    refine Out.mono (spec_best (lsK s.1 k) b ver H eb hL0 (by omega) _ (by simp [h5]) (by simp) (by simp) (by simp) (by simp)) ?_
    rintro e env' H' ⟨rfl, ⟨G, rfl⟩, k10, k5, k4, k8, k9⟩
    simp [h5, h4, h8, h9] at k5 k4 k8 k9
    simp (disch := first | omega | (simp <;> omega) | fail) []
    have hgb := get_bst (lsK s.1 k) hbl
    refine Out_draw pd7_22 ?_
    simp (disch := first | omega | (simp <;> omega) | fail) [k10, k5, k4, k8, bb', bp', bm', rowsT_len, rowT, hgb]
    refine Out_draw pd7_23 ?_
    have hap := fun h => apK_grow ⟨1, 8, false, none, some .i64, false, [], some [.int .i64 0]⟩ (gv k) (rowsI (mpK s.1 k)) (rowsI (fstT (lsK s.1 k)).2) mb mv (mpK s.1 k).length h (by simp; omega) hgk (by decide) (by decide) (by decide) (rowsI_sz _) (by simp; omega) (by simp; omega)
    simp at hap
    simp (disch := first | omega | (simp <;> omega) | fail) [k10, k5, k4, k8, bb', bp', bm', rowsT_len, rowT, hgb, hap]
    have htk : (rowsI (mpK s.1 k)).take (mpK s.1 k).length ++ rowsI (fstT (lsK s.1 k)).2 = rowsI (mpK s.1 (k + 1)) := by
      rw [List.take_of_length_le (by simp)]; simp [mpK, rowsI]
    have hln : (mpK s.1 k).length + (fstT (lsK s.1 k)).2.length = (mpK s.1 (k + 1)).length := by simp [mpK]
    rw [htk, hln, show mwK s.1 k + (fstT (lsK s.1 k)).1 = mwK s.1 (k + 1) from rfl]
    generalize hK : (List.set (List.set _ mb _) mp _ : Heap) ++ G = K
    have f1 : K[1]? = some (.vec 0 1 (rowsI s.2)) := by rw [← hK]; simp (disch := first | omega | (simp <;> omega) | fail) [b1']
    have fb : K[b]? = some (.vec ver 2 (rowsT (lsK s.1 k))) := by rw [← hK]; simp (disch := first | omega | (simp <;> omega) | fail) [bb']
    have fm : K[mb]? = some (.vec (mv + 1) 1 (rowsI (mpK s.1 (k + 1)))) := by rw [← hK]; simp (disch := first | omega | (simp <;> omega) | fail) []
    have fp : K[mp]? = some (.var [.int .i64 (mwK s.1 (k + 1)), .own mb (mv + 1) 0 (mpK s.1 (k + 1)).length]) := by rw [← hK]; simp (disch := first | omega | (simp <;> omega) | fail) []
    obtain ⟨c1, c1'⟩ := List.getElem?_eq_some_iff.1 f1
    obtain ⟨cb, cb'⟩ := List.getElem?_eq_some_iff.1 fb
    obtain ⟨cm, cm'⟩ := List.getElem?_eq_some_iff.1 fm
    obtain ⟨cp, cp'⟩ := List.getElem?_eq_some_iff.1 fp
    refine Out_draw pd7_24 ?_
    have ha1 := apK_full ⟨2, 32, true, none, none, false, [(0, 3), (1, 22)], some [.int .i64 0, .slice none 0 0]⟩ [] (List.take (bst (lsK s.1 k)) (rowsT (lsK s.1 k))) K.length 0 0 (K ++ [.vec 0 2 []]) (by simp) rfl (by decide) (by decide) (by decide) (szOk_take _ (rowsT_sz _)) (by simp; omega)
    simp at ha1
    simp (disch := first | omega | (simp <;> omega) | fail) [k10, k5, k4, k8, cb', ha1]
    have hrr : (rowsT (lsK s.1 k)).take (bst (lsK s.1 k)) ++ ((rowsT (lsK s.1 k)).drop (bst (lsK s.1 k) + 1)).take ((lsK s.1 k).length - (bst (lsK s.1 k) + 1)) = rowsT (lsK s.1 (k + 1)) := by
      rw [List.take_of_length_le (l := (rowsT (lsK s.1 k)).drop _) (by simp), lsK, rest, List.eraseIdx_eq_take_drop_succ]
      simp [rowsT]
    have ha2 := apK_full ⟨2, 32, true, none, none, false, [(0, 3), (1, 22)], some [.int .i64 0, .slice none 0 0]⟩ (List.take (bst (lsK s.1 k)) (rowsT (lsK s.1 k))) (List.take ((lsK s.1 k).length - (bst (lsK s.1 k) + 1)) (List.drop (bst (lsK s.1 k) + 1) (rowsT (lsK s.1 k)))) K.length (gv (bst (lsK s.1 k))) (bst (lsK s.1 k)) (K ++ [Blk.vec (gv (bst (lsK s.1 k))) 2 (List.take (bst (lsK s.1 k)) (rowsT (lsK s.1 k)))]) (by simp) (by simp; omega) (by decide) (by decide) (by decide) (szOk_take _ (szOk_drop _ (rowsT_sz _))) (by simp; omega)
    simp at ha2
    have hls : (lsK s.1 (k + 1)).length = (lsK s.1 k).length - 1 := by rw [lsK, rest_len _ hL0]
    rw [hrr, show bst (lsK s.1 k) + ((lsK s.1 k).length - (bst (lsK s.1 k) + 1)) = (lsK s.1 (k + 1)).length by omega] at ha2
    simp (disch := first | omega | (simp <;> omega) | fail) [k10, k5, k4, k8, k9, cb', ha1, ha2]
    exact hQ _ _ ⟨K.length, gv (bst (lsK s.1 k)) + gv ((lsK s.1 k).length - (bst (lsK s.1 k) + 1)), mv + 1, by omega, by simp, by simp, by simp (disch := first | omega | (simp <;> omega) | fail) [cp'], by simp (disch := first | omega | (simp <;> omega) | fail) [cm'], by simp (disch := first | omega | (simp <;> omega) | fail) [c1'], by simp [k4], by simp [k8], by simp, by omega, n2, n6, n3, by omega, by omega⟩
  · simp at hc; omega

theorem mpK_two (l : List Tree) : mpK l 2 = (both l).2 := by simp [mpK, both, lsK]
theorem mwK_two (l : List Tree) : mwK l 2 = (both l).1 := by simp [mwK, both, lsK]
/-- What holds at each round. -/
def splI (l : List Int) (s : HS) (env : Env) (H : Heap) : Prop := ∃ b ver, H[b]? = some (.vec ver 2 (rowsT s.1)) ∧ get env 5 = .own b ver 0 s.1.length ∧ H[1]? = some (.vec 0 1 (rowsI s.2)) ∧ 1 < b ∧ get env 4 = .own 1 0 0 l.length ∧
  GoodT l.length s ∧ 0 < s.1.length ∧ s.1.length ≤ l.length ∧ endT s = endT (huff0 l)

theorem specLengthsOf_no (l : List Int) (hl : l.length ≤ 1048576) (h : okW l = false) : callω Try.prog cf 7 [.sl (rowsI l)] [] = some (.tup [.own 0 0 0 0, .bool false], [.vec 0 0 []]) := by
  have hW := l15Weights_den l hl
  rw [Bool.and_comm, ← okW, h] at hW
  refine call_out Try.func7 rfl rfl rfl ?_; simp only [Try.f7]
  simp (disch := first | omega | (simp <;> omega) | fail) [hW]
theorem specLengthsOf_den (l : List Int) (hl : l.length ≤ 1048576) (h : okW l = true) : callω Try.prog cf 7 [.sl (rowsI l)] [] = some (.tup [.own 0 0 0 l.length, .bool true], [.vec 0 1 (rowsI (huff l))]) := by
  have hW := l15Weights_den l hl
  rw [Bool.and_comm, ← okW, h] at hW
  have hn : 1 < l.length ∧ l.length ≤ 24 := by
    have := h; simp [okW, inR] at this; omega
  have hw : ∀ x, x ∈ l → 0 ≤ x ∧ x ≤ 100000 := by
    intro x hx
    have := h
    simp [okW, inR] at this
    have := this.2 x hx
    omega
  refine call_out Try.func7 rfl rfl rfl ?_; simp only [Try.f7]
  simp (disch := first | omega | (simp <;> omega) | fail) [hW]
  rw [show List.replicate l.length [A.int .i64 0] = rowsI (huff0 l).2 by simp [rowsI, huff0]]
  refine Out.mono (Out_iter (fun (i : Nat) env H => ∃ G : Heap, H = .vec 0 0 [] :: .vec 0 1 (rowsI (huff0 l).2) :: .vec i (2 * gv i) (rowsT (initT l i)) :: G ∧ i ≤ l.length ∧ get env 4 = .own 1 0 0 l.length ∧ get env 5 = .own 2 i 0 i ∧ get env 21 = .sl (rowsI l) ∧ get env 22 = .int .i64 l.length ∧ get env 23 = .int .i64 i) (fun i => l.length - i)
    (fun e env H => ∃ G : Heap, H = .vec 0 0 [] :: .vec 0 1 (rowsI (huff0 l).2) :: .vec l.length (2 * gv l.length) (rowsT (initT l l.length)) :: G ∧ e = .exit 0 ∧ get env 4 = .own 1 0 0 l.length ∧ get env 5 = .own 2 l.length 0 l.length) ?_ 0 _ _ (by simp [rowsT, initT])) ?_
  · rintro i env H ⟨G, rfl, hi, h4, h5, h21, h22, h23⟩
    simp (disch := first | omega | (simp <;> omega) | fail) [h21, h22, h23]
    refine Out_if (fun hc => ?_) (fun hc => ?_)
    · have hlt : i < l.length := by simpa using hc
      have hap := fun h => apK_push ⟨2, 32, true, none, none, false, [(0, 3), (1, 22)], some [.int .i64 0, .slice none 0 0]⟩ i (rowsT (initT l i)) [.int .i64 l[i], .sl [[.int .i64 i]]] 2 h (by rw [rowsT_len, initT_len]) (by decide) (by decide) (by decide) (by simp) (by simp; omega)
      simp (disch := first | omega | (simp <;> omega) | fail) [h4, h5, h21, h22, h23, hap]
      exact ⟨i + 1, by omega, ⟨rfl, by simp, by rw [initT_succ l i hlt]; simp [rowsT, rowT, rowsI]⟩, by omega, rfl, by omega⟩
    · have : i = l.length := by simp at hc; omega
      subst this
      simp (disch := first | omega | (simp <;> omega) | fail) [h4, h5]
  · rintro e env H ⟨G, rfl, rfl, h4, h5⟩
    simp (disch := first | omega | (simp <;> omega) | fail) [h4, h5]
    refine Out.mono (Out_iter (splI l) (fun s => s.1.length) (fun e env H => e = .exit 2 ∧ 1 < H.length ∧ H[1]? = some (.vec 0 1 (rowsI (huff l))) ∧ get env 4 = .own 1 0 0 l.length) ?_ (huff0 l) _ _ ?_) ?_
    · rintro s env H ⟨b, ver, eb, k5, e1, n1, k4, hg, hs0, hsl, hend⟩
      simp (disch := first | omega | (simp <;> omega) | fail) [k5]
      refine Out_if (fun hc => ?_) (fun hc => ?_)
      · have h1s : 1 < s.1.length := by simp at hc; omega
        simp (disch := first | omega | (simp <;> omega) | fail) [k5]
        obtain ⟨b1, b1'⟩ := List.getElem?_eq_some_iff.1 e1
        obtain ⟨bb, bb'⟩ := List.getElem?_eq_some_iff.1 eb
        obtain ⟨ok1, ok2, ok3, ok4, ok5, ok6⟩ := hg.bothOk h1s
        refine Out.mono (Out_iter (fun (k : Nat) env H' => twoI l.length s H.length (H.length + 2) k env H') (fun k => 2 - k) (fun e env H' => e = .exit 4 ∧ twoI l.length s H.length (H.length + 2) 2 env H') ?_ 0 _ _ ?_) ?_
        · intro k env H' hI
          by_cases hk : k < 2
          · exact spec_two l.length s hg h1s (by omega) (by omega) _ _ k hk env H' hI _ (fun env' H'' h => ⟨k + 1, by show 2 - (k + 1) < 2 - k; omega, h⟩) _ rfl
          · have hI2 := hI
            obtain ⟨b, ver, mv, hk2, g1, g2, g3, g4, g5, g6, g7, h9, _⟩ := hI2
            have : k = 2 := by omega
            subst this
            simp (disch := first | omega | (simp <;> omega) | fail) [h9]
            obtain ⟨b, ver, mv, hk2, g1, g2, g3, g4, g5, g6, g7, h9, g10⟩ := hI
            exact ⟨b, ver, mv, hk2, g1, by simp [g2], g3, g4, g5, by simp [g6], by simp [g7], by simp [h9], g10⟩
        · exact ⟨b, ver, 0, by omega, by simp (disch := first | omega | (simp <;> omega) | fail) [bb', lsK], by simp [k5, lsK], by simp (disch := first | omega | (simp <;> omega) | fail) [mwK, mpK], by simp (disch := first | omega | (simp <;> omega) | fail) [mpK, rowsI], by simp (disch := first | omega | (simp <;> omega) | fail) [b1'], by simp [k4], by simp, by simp, by omega, by omega, by omega, by omega, by omega, by omega⟩
        · rintro e env H' ⟨rfl, b', ver', mv, _, g1, g2, g3, g4, g5, g6, g7, _, m1, m2, m3, m4, m5, m6⟩
          rw [show lsK s.1 2 = rest (rest s.1) from rfl] at g1 g2
          rw [mpK_two, mwK_two] at g3
          rw [mpK_two] at g4
          have hst : stepT s = (rest (rest s.1) ++ [both s.1], bump s.2 (both s.1).2) := rfl
          have hble : ∀ k i, i ∈ (both s.1).2 → -1 ≤ (bump s.2 ((both s.1).2.take k)).getD i.toNat 0 ∧ (bump s.2 ((both s.1).2.take k)).getD i.toNat 0 ≤ l.length := fun k i hi => bump_take_le hg h1s k i hi
          have hrr : (rest (rest s.1)).length = s.1.length - 2 := by rw [rest_len _ (by rw [rest_len _ hs0]; omega), rest_len _ hs0]; omega
          generalize both s.1 = B at *
          obtain ⟨c1, c1'⟩ := List.getElem?_eq_some_iff.1 g1
          obtain ⟨c3, c3'⟩ := List.getElem?_eq_some_iff.1 g3
          obtain ⟨c4, c4'⟩ := List.getElem?_eq_some_iff.1 g4
          obtain ⟨c5, c5'⟩ := List.getElem?_eq_some_iff.1 g5
          simp (disch := first | omega | (simp <;> omega) | fail) [g7, c3']
          refine Out.mono (spec_bump l.length s.2 B.2 H.length mv H' g5 g4 (by omega) hg.len (by omega) (by omega) (fun i hi => ⟨(ok6 i hi).1, (ok6 i hi).2.1⟩) hble _ (by simp [g6]) (by simp) (by simp) (by simp)) ?_
          rintro e env' H'' ⟨rfl, rfl, q5, q4, q8⟩
          simp [g2, g6, g7] at q5 q4 q8
          simp (disch := first | omega | (simp <;> omega) | fail) [q5, q4, q8, c3', c4', c1']
          have htB : List.take B.2.length (rowsI B.2) = rowsI B.2 := List.take_of_length_le (by simp)
          have htr : List.take (rest (rest s.1)).length (rowsT (rest (rest s.1))) = rowsT (rest (rest s.1)) := List.take_of_length_le (by simp)
          rw [htB, htr]
          refine ⟨rest (rest s.1) ++ [B], by simp; omega, bump s.2 B.2, b', ver' + 1, ?_, by simp, by simp (disch := first | omega | (simp <;> omega) | fail) [], m1, by simp [q4], by rw [← hst]; exact hg.step h1s, by simp, by simp; omega, by rw [← hst, ← endT_step s h1s, hend]⟩
          simp (disch := first | omega | (simp <;> omega) | fail) []
          simp [rowsT, rowT]
      · have h1s : ¬ 1 < s.1.length := by simp at hc; omega
        obtain ⟨b1, b1'⟩ := List.getElem?_eq_some_iff.1 e1
        simp (disch := first | omega | (simp <;> omega) | fail) [k4, b1']
        simp only [huff]
        rw [← hend, endT_one s h1s]
        exact ⟨b1, rfl⟩
    · have hgv : gv l.length = 1 := by unfold gv; rw [if_neg (by omega)]
      have hf1 : (huff0 l).1 = initT l l.length := rfl
      have hil := initT_len l l.length
      exact ⟨2, l.length, by simp [hgv, hf1], by simp [h5, hf1, hil], by simp, by omega, by simp [h4], good0 l hw, by simp [hf1, hil]; omega, by simp [hf1, hil], rfl⟩
    · rintro e env H ⟨rfl, hH, hq, k4⟩
      obtain ⟨w1, w1'⟩ := List.getElem?_eq_some_iff.1 hq
      have hhl := huff_len l (by omega) hw
      have htk : List.take l.length (rowsI (huff l)) = rowsI (huff l) := List.take_of_length_le (by simp [hhl])
      simp (disch := first | omega | (simp <;> omega) | fail) [k4, w1', htk]
end Go.Proofs.Ytckjogpdnkocbaa.Den
namespace Go.Proofs.Ytckjogpdnkocbaa.Den
open Go.Proofs
set_option maxHeartbeats 1000000
set_option maxRecDepth 20000
@[simp] theorem flatRows_I (l : List Int) : flatRows (rowsI l) = true := by simp [flatRows, rowsI]
theorem mark_den (l : List Int) (hl : l.length ≤ 1048576) (b ver sz : Nat) (H : Heap) (hb : H[b]? = some (.vec ver sz (rowsI l))) (hsz : l = [] ∨ sz = 1) (k : Int) (hk : 0 ≤ k) (hk2 : k ≤ 4294967296) :
    callω Try.prog cf 11 [.own b ver 0 l.length, .int .i64 k] H = some (.int .i64 (k + l.length), H.set b (.vec ver sz (rowsI (upFrom k l.length)))) := by
  obtain ⟨hbl, hb2⟩ := List.getElem?_eq_some_iff.1 hb
  refine call_out Try.func11 rfl rfl rfl ?_; simp only [Try.f11]
  simp (maxSteps := 4000000) (disch := first | omega | (simp <;> omega) | fail) []
  refine Out.mono (Out_iter (fun (i : Nat) env H' => H' = H.set b (.vec ver sz (rowsI (markI l k i))) ∧ i ≤ l.length ∧ get env 0 = .own b ver 0 l.length ∧ get env 1 = .int .i64 (k + i) ∧ get env 5 = .int .i64 i) (fun i => l.length - i)
    (fun e env H' => e = .exit 0 ∧ H' = H.set b (.vec ver sz (rowsI (upFrom k l.length))) ∧ get env 1 = .int .i64 (k + l.length)) ?_ 0 _ _ ?_) ?_
  · rintro i env H' ⟨rfl, hi, h0, h1, h5⟩
    simp (maxSteps := 4000000) (disch := first | omega | (simp <;> omega) | fail) [h0, h1, h5]
    refine Out_if (fun hc => ?_) (fun hc => ?_)
    · have hlt : i < l.length := by simpa using hc
      have hs1 : sz = 1 := by
        rcases hsz with e | e
        · subst e; simp at hlt
        · exact e
      have hml := markI_len l k i hi
      simp (maxSteps := 4000000) (disch := first | omega | (simp <;> omega) | fail) [h0, h1, h5, hs1, hml, markI_set]
      exact ⟨i + 1, by omega, rfl, by omega, by omega, by omega⟩
    · have : i = l.length := by simp at hc; omega
      subst this
      simp (maxSteps := 4000000) (disch := first | omega | (simp <;> omega) | fail) [h1, markI]
  · simp [markI, upFrom]
    rw [← hb2, List.set_getElem_self]
  · rintro e env H' ⟨rfl, rfl, h1⟩
    simp (maxSteps := 4000000) (disch := first | omega | (simp <;> omega) | fail) [h1]
    exact List.take_of_length_le (by simp)
attribute [simp] upFrom_len
theorem law_den (l : List Int) (hl : l.length ≤ 1048576) (h : okW l = true) : callω Try.prog cf 3 [.sl (rowsI l)] [] = some (.bool true, []) := by
  have hn : 1 < l.length ∧ l.length ≤ 24 := by
    have := h; simp [okW, inR] at this; omega
  have hw : ∀ x, x ∈ l → 0 ≤ x ∧ x ≤ 100000 := by
    intro x hx
    have := h
    simp [okW, inR] at this
    have := this.2 x hx
    omega
  have e1 := toIntS_den l hl
  have e2 := specLengthsOf_den l hl h
  have e3 := lengthsOf_den l hl h
  have hhl := huff_len l (by omega) hw
  have e4 := eqIntS_den (huff l) (huff l) (by omega)
  have e5 := eqIntS_den l l hl
  simp at e4 e5
  have htk : List.take l.length (rowsI (huff l)) = rowsI (huff l) := List.take_of_length_le (by simp [hhl])
  refine call_out Try.func3 rfl rfl rfl ?_; simp only [Try.f3]
  simp (maxSteps := 4000000) (disch := first | omega | (simp <;> omega) | fail) []
  refine Out_if (fun hc => ?_) (fun hc => ?_)
  · simp at hc; omega
  have m1 := fun H b hb => mark_den l hl b 0 1 H hb (.inr rfl) 1 (by omega) (by omega)
  have m2 := fun H b hb => mark_den (huff l) (by omega) b 0 1 H hb (.inr rfl) 1 (by omega) (by omega)
  have hd := heldIntS_den (upFrom 1 (huff l).length) (by rw [upFrom_len]; omega) 1 (by omega) (by omega)
  simp [upFrom_len] at hd
  rw [hhl] at hd m2
  generalize huff l = o at *
  have hneg : ¬ ((1 : Int) + l.length < 0) := by omega
  simp (maxSteps := 4000000) (disch := first | omega | (simp <;> omega) | fail) [e1, e2, e3, e4, e5, htk, List.take_of_length_le, m1, m2, hd, upFrom_len, hneg]
theorem law_den_no (l : List Int) (hl : l.length ≤ 1048576) (h : okW l = false) : callω Try.prog cf 3 [.sl (rowsI l)] [] = some (.bool true, []) := by
  have e1 := toIntS_den l hl
  have e2 := specLengthsOf_no l hl h
  have e3 := lengthsOf_no l hl h
  have e4 := eqIntS_den [] [] (by simp)
  have e5 := eqIntS_den l l hl
  simp [rowsI] at e4
  simp at e5
  refine call_out Try.func3 rfl rfl rfl ?_; simp only [Try.f3]
  simp (maxSteps := 4000000) (disch := first | omega | (simp <;> omega) | fail) []
  refine Out_if (fun hc => ?_) (fun hc => ?_)
  · simp at hc; omega
  have m1 := fun H b hb => mark_den l hl b 0 1 H hb (.inr rfl) 1 (by omega) (by omega)
  have m2 := fun H b hb => mark_den [] (by simp) b 0 0 H hb (.inl rfl) 1 (by omega) (by omega)
  have hd := heldIntS_den [] (by simp) 1 (by omega) (by omega)
  simp [rowsI, upFrom] at hd m2
  have hneg : ¬ ((1 : Int) + l.length < 0) := by omega
  simp (maxSteps := 4000000) (disch := first | omega | (simp <;> omega) | fail) [e1, e2, e3, e4, e5, List.take_of_length_le, m1, m2, hd, upFrom_len, hneg]
theorem law_den_long (l : List Int) (hl : 1048576 < l.length) : callω Try.prog cf 3 [.sl (rowsI l)] [] = some (.bool true, []) := by
  refine call_out Try.func3 rfl rfl rfl ?_; simp only [Try.f3]
  simp (maxSteps := 4000000) (disch := first | omega | (simp <;> omega) | fail) []
  refine Out_if (fun hc => ?_) (fun hc => ?_)
  · simp (maxSteps := 4000000) (disch := first | omega | (simp <;> omega) | fail) []
  · simp at hc; omega
theorem law_all (l : List Int) : callω Try.prog cf 3 [.sl (rowsI l)] [] = some (.bool true, []) := by
  by_cases hl : l.length ≤ 1048576
  · cases h : okW l with
    | true => exact law_den l hl h
    | false => exact law_den_no l hl h
  · exact law_den_long l (by omega)
end Go.Proofs.Ytckjogpdnkocbaa.Den
namespace Go.Proofs.Ytckjogpdnkocbaa.Den
open Go.Proofs
set_option maxHeartbeats 1000000
set_option maxRecDepth 20000
/-- Rows of bytes. -/
def rowsU (l : List Int) : List (List A) := l.map fun x => [A.int .u8 x]
@[simp] theorem rowsU_len (l : List Int) : (rowsU l).length = l.length := by simp [rowsU]
@[simp] theorem rowsU_get (l : List Int) (i : Nat) (h : i < (rowsU l).length) : (rowsU l)[i] = [.int .u8 (l[i]'(by simpa using h))] := by simp [rowsU]
@[simp] theorem rowsU_get? (l : List Int) (i : Nat) : (rowsU l)[i]? = l[i]?.map fun x => [A.int .u8 x] := by simp [rowsU]
/-- The bytes of an argument. -/
def Bytes (l : List Int) : Prop := l.length ≤ 1048576 ∧ ∀ x, x ∈ l → 0 ≤ x ∧ x ≤ 255
/-- A cursor that has gone m steps at most. -/
def CurAt (code : List Int) (m : Int) (x : Blk) : Prop := ∃ at' seed, x = .var [.sl (rowsU code), .int .i64 at', .int .u64 seed] ∧ 0 ≤ at' ∧ at' ≤ m
/-- A call of a cursor's method: a number, the cursor gone k steps at most. -/
def CurPost (code : List Int) (H : Heap) (b : Nat) (m : Int) (R : A → Prop) (r : A) (h : Heap) : Prop := R r ∧ ∃ x, h = H.set b x ∧ CurAt code m x
theorem u64_in {n : Int} (h0 : 0 ≤ n) (h1 : n ≤ 18446744073709551615) : IntKind.u64.wrap n = n := by
  simp [IntKind.wrap, IntKind.bits, IntKind.signed]; omega
theorem seed_le (X : Nat) : 0 ≤ IntKind.i64.wrap (IntKind.u64.wrap ((X &&& 255 % 2 ^ IntKind.u64.bits : Nat) : Int)) ∧ IntKind.i64.wrap (IntKind.u64.wrap ((X &&& 255 % 2 ^ IntKind.u64.bits : Nat) : Int)) ≤ 255 := by
  have h : (X &&& 255 % 2 ^ IntKind.u64.bits) ≤ 255 := Nat.le_trans Nat.and_le_right (by decide)
  generalize (X &&& 255 % 2 ^ IntKind.u64.bits) = n at *
  rw [u64_in (by omega) (by omega), i64_in (by omega) (by omega)]
  omega
theorem next_ex (code : List Int) (hc : Bytes code) (b : Nat) (H : Heap) (m : Int) (hm : m ≤ 1152921504606846976) (x : Blk) (hb : H[b]? = some x) (hx : CurAt code m x) :
    Ex (callω Try.prog cf 84 [.ptr b 0] H) (CurPost code H b (m + 1) fun r => ∃ v : Int, r = .int .i64 v ∧ 0 ≤ v ∧ v ≤ 255) := by
  obtain ⟨at', seed, rfl, h0, h1⟩ := hx
  obtain ⟨a, rfl⟩ : ∃ a : Nat, at' = a := ⟨at'.toNat, by omega⟩
  obtain ⟨hbl, hb2⟩ := List.getElem?_eq_some_iff.1 hb
  obtain ⟨hcl, hcb⟩ := hc
  refine call_ex Try.func84 rfl rfl rfl ?_; simp only [Try.f84]
  simp (maxSteps := 4000000) (disch := first | omega | (simp <;> omega) | fail) [hb2]
  refine Out_draw pd84_2 ?_
  simp (maxSteps := 4000000) (disch := first | omega | (simp <;> omega) | fail) [hb2]
  refine Out_if (fun hc => ?_) (fun hc => ?_)
  · have hlt : a < code.length := by simpa using hc
    have hv := hcb code[a] (List.getElem_mem _)
    refine Out_draw pd84_3 ?_
    simp (maxSteps := 4000000) (disch := first | omega | (simp <;> omega) | fail) [hb2]
    refine Out_draw pd84_6 ?_
    simp (maxSteps := 4000000) (disch := first | omega | (simp <;> omega) | fail) [hb2]
    refine Out_if (fun hc => ?_) (fun hc => ?_)
    · simp (maxSteps := 4000000) (disch := first | omega | (simp <;> omega) | fail) [CurPost, CurAt]
      exact ⟨hv, _, List.take_of_length_le (by simp), _, ⟨_, rfl⟩, by omega, by omega⟩
    · simp at hc; omega
  · simp (maxSteps := 4000000) (disch := first | omega | (simp <;> omega) | fail) [hb2]
    refine Out_draw pd84_6 ?_
    simp (maxSteps := 4000000) (disch := first | omega | (simp <;> omega) | fail) [hb2]
    refine Out_if (fun hc2 => ?_) (fun hc2 => ?_)
    · simp at hc hc2; omega
    · simp (maxSteps := 4000000) (disch := first | omega | (simp <;> omega) | fail) [CurPost, CurAt]
      exact ⟨seed_le _, _, List.take_of_length_le (by simp), _, ⟨_, rfl⟩, by omega, by omega⟩
theorem CurAt.mono {code : List Int} {m m' : Int} {x : Blk} (h : CurAt code m x) (hm : m ≤ m') : CurAt code m' x := by
  obtain ⟨a, s, e, h0, h1⟩ := h
  exact ⟨a, s, e, h0, by omega⟩
theorem tmod_in (v n : Int) (hv : 0 ≤ v) (hn : 0 < n) : 0 ≤ v.tmod n ∧ (v.tmod n = 0 ∨ v.tmod n < n) :=
  ⟨Int.tmod_nonneg _ hv, .inr (Int.tmod_lt_of_pos _ hn)⟩
theorem pick_ex (code : List Int) (hc : Bytes code) (n : Int) (hn : n ≤ 1048576) (b : Nat) (H : Heap) (m : Int) (hm : m ≤ 1152921504606846970) (x : Blk) (hb : H[b]? = some x) (hx : CurAt code m x) :
    Ex (callω Try.prog cf 52 [.ptr b 0, .int .i64 n] H) (CurPost code H b (m + 2) fun r => ∃ v : Int, r = .int .i64 v ∧ 0 ≤ v ∧ (v = 0 ∨ v < n)) := by
  obtain ⟨hbl, hb2⟩ := List.getElem?_eq_some_iff.1 hb
  refine call_ex Try.func52 rfl rfl rfl ?_; simp only [Try.f52]
  simp (maxSteps := 4000000) (disch := first | omega | (simp <;> omega) | fail) []
  refine Out_if (fun hc1 => ?_) (fun hc1 => ?_)
  · simp (maxSteps := 4000000) (disch := first | omega | (simp <;> omega) | fail) [CurPost]
    obtain ⟨at', seed, rfl, h0, h1⟩ := hx
    exact ⟨_, by rw [← hb2, List.set_getElem_self], at', seed, rfl, h0, by omega⟩
  · simp at hc1
    simp (maxSteps := 4000000) (disch := first | omega | (simp <;> omega) | fail) []
    refine Out_ex (next_ex code hc b H m (by omega) x hb hx) ?_
    rintro r h ⟨⟨v, rfl, v0, v1⟩, y, rfl, hy⟩
    simp (maxSteps := 4000000) (disch := first | omega | (simp <;> omega) | fail) []
    refine Out_if (fun hc2 => ?_) (fun hc2 => ?_)
    · simp (maxSteps := 4000000) (disch := first | omega | (simp <;> omega) | fail) []
      refine Out_ex (next_ex code hc b _ (m + 1) (by omega) y (by simp [hbl]) hy) ?_
      rintro r h ⟨⟨u, rfl, u0, u1⟩, z, rfl, hz⟩
      have hn0 : n ≠ 0 := by omega
      simp (maxSteps := 4000000) (disch := first | omega | (simp <;> omega) | fail) [hn0, CurPost]
      exact ⟨tmod_in _ n (by omega) (by omega), z, List.take_of_length_le (by simp), hz.mono (by omega)⟩
    · have hn0 : n ≠ 0 := by omega
      simp (maxSteps := 4000000) (disch := first | omega | (simp <;> omega) | fail) [hn0, CurPost]
      exact ⟨tmod_in _ n (by omega) (by omega), y, List.take_of_length_le (by simp), hy.mono (by omega)⟩
theorem CurPost.set {code : List Int} {H : Heap} {b : Nat} {m m' : Int} {R R' : A → Prop} {r r' : A} {h : Heap} (hp : CurPost code H b m R r h) (hm : m ≤ m') (hr : R r → R' r') : CurPost code H b m' R' r' (h.take H.length) := by
  obtain ⟨h1, x, rfl, hx⟩ := hp
  exact ⟨hr h1, x, List.take_of_length_le (by simp), hx.mono hm⟩
theorem one_ex (code : List Int) (hc : Bytes code) (n : Int) (hn : n ≤ 1048576) (b : Nat) (H : Heap) (m : Int) (hm : m ≤ 1152921504606846970) (x : Blk) (hb : H[b]? = some x) (hx : CurAt code m x) :
    Ex (callω Try.prog cf 51 [.ptr b 0, .int .i64 n] H) (CurPost code H b (m + 2) fun r => ∃ v : Bool, r = .bool v) := by
  refine call_ex Try.func51 rfl rfl rfl ?_; simp only [Try.f51]
  simp (maxSteps := 4000000) (disch := first | omega | (simp <;> omega) | fail) []
  refine Out_ex (pick_ex code hc n hn b H m hm x hb hx) ?_
  rintro r h ⟨⟨v, rfl, v0, v1⟩, y, rfl, hy⟩
  simp (maxSteps := 4000000) (disch := first | omega | (simp <;> omega) | fail) [CurPost]
  exact ⟨(Decidable.em _).symm, y, List.take_of_length_le (by simp), hy⟩
theorem among_ex (code : List Int) (hc : Bytes code) (l : List Int) (hl : l.length ≤ 1048576) (hl0 : 0 < l.length) (b : Nat) (H : Heap) (m : Int) (hm : m ≤ 1152921504606846970) (x : Blk) (hb : H[b]? = some x) (hx : CurAt code m x) :
    Ex (callω Try.prog cf 81 [.ptr b 0, .sl (rowsI l)] H) (CurPost code H b (m + 2) fun r => ∃ v : Int, r = .int .i64 v ∧ v ∈ l) := by
  refine call_ex Try.func81 rfl rfl rfl ?_; simp only [Try.f81]
  simp (maxSteps := 4000000) (disch := first | omega | (simp <;> omega) | fail) []
  refine Out_ex (pick_ex code hc l.length (by omega) b H m hm x hb hx) ?_
  rintro r h ⟨⟨v, rfl, v0, v1⟩, y, rfl, hy⟩
  obtain ⟨k, rfl⟩ : ∃ k : Nat, v = k := ⟨v.toNat, by omega⟩
  have hk : k < l.length := by omega
  simp (maxSteps := 4000000) (disch := first | omega | (simp <;> omega) | fail) [CurPost]
  exact ⟨y, List.take_of_length_le (by simp), hy⟩
/-- What a cursor's method leaves: all blocks as they were but for the cursor. -/
theorem take_set_set {H : Heap} {b : Nat} (x y : Blk) {K : Heap} (hk : K.take H.length = H.set b x) : (K.set b y).take H.length = H.set b y := by
  rw [List.take_set, hk, List.set_set]
def wA (code : List Int) (m : Int) (b : Nat) (H : Heap) (e : X) (env : Env) (H' : Heap) : Prop := e = .normal ∧ ∃ (n : Int) (z : Blk) (G : Heap), H' = H.set b z ++ .vec 0 0 [] :: .vec 0 0 [] :: G ∧ CurAt code (m + 6) z ∧ n ≤ 25 ∧ get env 0 = .ptr b 0 ∧ get env 3 = .own (H.length + 1) 0 0 0 ∧ get env 4 = .int .i64 n
def wI (code : List Int) (m : Int) (b : Nat) (H : Heap) (d : Nat) (env : Env) (H' : Heap) : Prop := ∃ (l : List Int) (n : Int) (z : Blk) (G : Heap), H' = H.set b z ++ .vec 0 0 [] :: .vec l.length (gv l.length) (rowsI l) :: G ∧ CurAt code (m + 8 + 2 * l.length) z ∧ n + l.length ≤ 25 ∧ l.length ≤ 25 ∧ d = n.toNat ∧ get env 0 = .ptr b 0 ∧ get env 3 = .own (H.length + 1) l.length 0 l.length ∧ get env 4 = .int .i64 n ∧ (∃ a5, get env 5 = .int .i64 a5) ∧ (∃ b6, get env 6 = .int .i64 b6) ∧ ∃ f7, get env 7 = .bool f7
def wQ (code : List Int) (m : Int) (b : Nat) (H : Heap) (e : X) (env : Env) (H' : Heap) : Prop := e = .exit 0 ∧ ∃ (l : List Int) (z : Blk) (G : Heap), H' = H.set b z ++ .vec 0 0 [] :: .vec l.length (gv l.length) (rowsI l) :: G ∧ CurAt code (m + 8 + 2 * l.length) z ∧ l.length ≤ 25 ∧ get env 0 = .ptr b 0 ∧ get env 3 = .own (H.length + 1) l.length 0 l.length
theorem weights_ex (code : List Int) (hc : Bytes code) (b : Nat) (H : Heap) (m : Int) (hm : m ≤ 1152921504606846000) (x : Blk) (hb : H[b]? = some x) (hx : CurAt code m x) :
    Ex (callω Try.prog cf 47 [.ptr b 0] H) (CurPost code H b (m + 70) fun r => ∃ l : List Int, r = .sl (rowsI l) ∧ l.length ≤ 25) := by
  obtain ⟨hbl, hb2⟩ := List.getElem?_eq_some_iff.1 hb
  refine call_ex Try.func47 rfl rfl rfl ?_; simp only [Try.f47]
  simp (maxSteps := 4000000) (disch := first | omega | (simp <;> omega) | fail) []
  refine Out_ex (pick_ex code hc 8 (by omega) b _ m (by omega) x (by simp (maxSteps := 4000000) (disch := first | omega | (simp <;> omega) | fail) [hb2]) hx) ?_
  rintro r h ⟨⟨v, rfl, v0, v1⟩, y, rfl, hy⟩
  simp (maxSteps := 4000000) (disch := first | omega | (simp <;> omega) | fail) []
  refine Out_ex (one_ex code hc 20 (by omega) b _ (m + 2) (by omega) y (by simp (maxSteps := 4000000) (disch := first | omega | (simp <;> omega) | fail) []) hy) ?_
  rintro r h ⟨⟨u, rfl⟩, z, rfl, hz⟩
  simp (maxSteps := 4000000) (disch := first | omega | (simp <;> omega) | fail) []
  refine Out.mono (Q := wA code m b H) ?_ ?_
  · refine Out_if (fun hc1 => ?_) (fun hc1 => ?_)
    · simp (maxSteps := 4000000) (disch := first | omega | (simp <;> omega) | fail) []
      refine Out_ex (among_ex code hc [1, 24, 25] (by simp) (by simp) b _ (m + 4) (by omega) z (by simp (maxSteps := 4000000) (disch := first | omega | (simp <;> omega) | fail) []) (hz.mono (by omega))) ?_
      rintro r h ⟨⟨v, rfl, hv⟩, w, rfl, hw⟩
      have hv2 : v ≤ 25 := by simp at hv; omega
      simp (maxSteps := 4000000) (disch := first | omega | (simp <;> omega) | fail) []
      exact ⟨rfl, v, w, [.dead], rfl, hw.mono (by omega), hv2, by simp, by simp, by simp⟩
    · simp (maxSteps := 4000000) (disch := first | omega | (simp <;> omega) | fail) []
      exact ⟨rfl, 2 + v, z, [], rfl, hz.mono (by omega), by omega, by simp, by simp, by simp⟩
  rintro e env H' ⟨rfl, n, z, G, rfl, hz, hn, h0, h3, h4⟩
  simp (maxSteps := 4000000) (disch := first | omega | (simp <;> omega) | fail) [h0, h3, h4]
  refine Out_ex (one_ex code hc 8 (by omega) b _ (m + 6) (by omega) z (by simp (maxSteps := 4000000) (disch := first | omega | (simp <;> omega) | fail) []) hz) ?_
  rintro r h ⟨⟨fib, rfl⟩, y, rfl, hy⟩
  simp (maxSteps := 4000000) (disch := first | omega | (simp <;> omega) | fail) []
  refine Out.mono (Out_iter (wI code m b H) (fun d => d) (wQ code m b H) ?_ n.toNat _ _ ?_) ?_
  · rintro d env H' ⟨l, n, z, G, rfl, hz, hn, hl, rfl, h0, h3, h4, ⟨a5, h5⟩, ⟨b6, h6⟩, ⟨f7, h7⟩⟩
    simp (maxSteps := 4000000) (disch := first | omega | (simp <;> omega) | fail) [h4]
    refine Out_if (fun hc1 => ?_) (fun hc1 => ?_)
    · simp at hc1
      simp (maxSteps := 4000000) (disch := first | omega | (simp <;> omega) | fail) [h7]
      have hap := fun v h => apK_push ⟨1, 8, false, none, some .i64, false, [], some [.int .i64 0]⟩ l.length (rowsI l) [.int .i64 v] (H.length + 1) h (by simp) (by decide) (by decide) (by decide) (by simp) (by simp; omega)
      simp at hap
      have hrow : ∀ v, rowsI l ++ [[A.int .i64 v]] = rowsI (l ++ [v]) := fun v => by simp [rowsI]
      refine Out_if (fun hc2 => ?_) (fun hc2 => ?_)
      · simp (maxSteps := 4000000) (disch := first | omega | (simp <;> omega) | fail) [h0, h3, h4, h5, h6, h7, hap, hrow]
        exact ⟨(n - 1).toNat, by omega, l ++ [a5], n - 1, z, _, by simp; rfl, hz.mono (by simp; omega), by simp; omega, by simp; omega, rfl, by simp [h0], by simp, by simp, ⟨_, by simp; rfl⟩, ⟨_, by simp; rfl⟩, ⟨f7, by simp [h7]⟩⟩
      · simp (maxSteps := 4000000) (disch := first | omega | (simp <;> omega) | fail) [h0, h3, h4, h5, h6, h7]
        refine Out_ex (pick_ex code hc 20 (by omega) b _ (m + 8 + 2 * l.length) (by omega) z (by simp (maxSteps := 4000000) (disch := first | omega | (simp <;> omega) | fail) []) hz) ?_
        rintro r h ⟨⟨v, rfl, v0, v1⟩, y, rfl, hy⟩
        simp (maxSteps := 4000000) (disch := first | omega | (simp <;> omega) | fail) [h0, h3, h4, h5, h6, h7, hap, hrow]
        exact ⟨(n - 1).toNat, by omega, l ++ [1 + v], n - 1, y, _, by simp; rfl, hy.mono (by simp; omega), by simp; omega, by simp; omega, rfl, by simp [h0], by simp, by simp, ⟨_, by simp [h5]; rfl⟩, ⟨_, by simp [h6]; rfl⟩, ⟨f7, by simp [h7]⟩⟩
    · simp at hc1
      simp (maxSteps := 4000000) (disch := first | omega | (simp <;> omega) | fail) [h0, h3]
      exact ⟨rfl, l, z, G, rfl, hz, hl, by simp [h0], by simp [h3]⟩
  · exact ⟨[], n, y, G, by simp (maxSteps := 4000000) (disch := first | omega | (simp <;> omega) | fail) []; rfl, hy.mono (by omega), by simpa using hn, by simp, rfl, by simp [h0], by simp [h3], by simp [h4], ⟨1, by simp⟩, ⟨1, by simp⟩, ⟨fib, by simp⟩⟩
  · rintro e env H' ⟨rfl, l, z, G, rfl, hz, hl, h0, h3⟩
    have htk : (rowsI l).take l.length = rowsI l := List.take_of_length_le (by simp)
    have hdn : (List.set H b z).take H.length = List.set H b z := List.take_of_length_le (by simp)
    by_cases hl0 : 0 < l.length
    · have hgv : gv l.length = 1 := by unfold gv; rw [if_neg (by omega)]
      simp (maxSteps := 4000000) (disch := first | omega | (simp <;> omega) | fail) [h0, h3, hl0]
      refine Out_ex (one_ex code hc 30 (by omega) b _ (m + 8 + 2 * l.length) (by omega) z (by simp (maxSteps := 4000000) (disch := first | omega | (simp <;> omega) | fail) []) hz) ?_
      rintro r h ⟨⟨w, rfl⟩, y, rfl, hy⟩
      simp (maxSteps := 4000000) (disch := first | omega | (simp <;> omega) | fail) [h0, h3]
      refine Out_if (fun hc1 => ?_) (fun hc1 => ?_)
      · simp (maxSteps := 4000000) (disch := first | omega | (simp <;> omega) | fail) [h0, h3]
        refine Out_ex (among_ex code hc [0, 100000, 100001] (by simp) (by simp) b _ (m + 8 + 2 * l.length + 2) (by omega) y (by simp (maxSteps := 4000000) (disch := first | omega | (simp <;> omega) | fail) []) hy) ?_
        rintro r h ⟨⟨v, rfl, hv⟩, x', rfl, hx'⟩
        simp (maxSteps := 4000000) (disch := first | omega | (simp <;> omega) | fail) [h0, h3, hgv]
        have hm2 : m + 8 + 2 * (l.length : Int) + 2 + 2 ≤ m + 70 := by omega
        exact ⟨⟨l.set 0 v, by rw [List.take_of_length_le (by simp), rowsI_set l 0 hl0], by simp [hl]⟩, x', rfl, hx'.mono hm2⟩
      · simp (maxSteps := 4000000) (disch := first | omega | (simp <;> omega) | fail) [h0, h3, htk]
        exact ⟨⟨l, rfl, hl⟩, y, by simp [List.take_of_length_le], hy.mono (by omega)⟩
    · have hl1 : l = [] := by
        cases l with
        | nil => rfl
        | cons a l => simp at hl0
      subst hl1
      simp (maxSteps := 4000000) (disch := first | omega | (simp <;> omega) | fail) [h0, h3]
      exact ⟨⟨[], rfl, by simp⟩, z, by simp [List.take_of_length_le], hz.mono (by simp at *)⟩
/-- A list of numbers that is drawn. -/
def IsInts (n : Nat) (r : A) : Prop := ∃ l : List Int, r = .sl (rowsI l) ∧ l.length ≤ n
theorem drawLengthsOf_ex (code : List Int) (hc : Bytes code) : Ex (callω Try.prog cf 13 [.sl (rowsU code)] []) fun r h => IsInts 25 r ∧ h = [] := by
  refine call_ex Try.func13 rfl rfl rfl ?_; simp only [Try.f13]
  simp (maxSteps := 4000000) (disch := first | omega | (simp <;> omega) | fail) []
  refine Out_ex (weights_ex code hc 2 _ 0 (by omega) _ rfl ⟨0, 0, rfl, by omega, by omega⟩) ?_
  rintro r h ⟨⟨l, rfl, hl⟩, y, rfl, hy⟩
  simp (maxSteps := 4000000) (disch := first | omega | (simp <;> omega) | fail) []
  exact ⟨l, rfl, hl⟩
end Go.Proofs.Ytckjogpdnkocbaa.Den
