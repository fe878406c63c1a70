/- the types of the seat's program, as the proofs meet them. -/
import Derived.Test.YtlkdkhmdmgchbaaJB
namespace Go.Proofs.Ytlkdkhmdmgchbaa
set_option linter.unusedSimpArgs false
set_option linter.unusedVariables false
open Go.RowKit

def ti2 : TI := ⟨1, .int .i64 0, 8, .int .i64, [none]⟩
theorem tk2 : TOk Try.prog 2 ti2 := ⟨by kernel_rfl, by kernel_rfl⟩
def ti3 : TI := ⟨1, .int .i64 0, 8, .int .i64, [none]⟩
theorem tk3 : TOk Try.prog 3 ti3 := ⟨by kernel_rfl, by kernel_rfl⟩
def ti4 : TI := ⟨1, .bool false, 1, .bool, [none]⟩
theorem tk4 : TOk Try.prog 4 ti4 := ⟨by kernel_rfl, by kernel_rfl⟩
def ti5 : TI := ⟨1, .int .u8 0, 1, .int .u8, [none]⟩
theorem tk5 : TOk Try.prog 5 ti5 := ⟨by kernel_rfl, by kernel_rfl⟩
def ti6 : TI := ⟨1, .int .u8 0, 1, .int .u8, [none]⟩
theorem tk6 : TOk Try.prog 6 ti6 := ⟨by kernel_rfl, by kernel_rfl⟩
def ti7 : TI := ⟨4, .agg #[.int .i64 0, .int .i64 0, .bool false, .int .u8 0], 24, .struct [(0, 2), (1, 3), (2, 4), (3, 6)], [none, none, none, none]⟩
theorem tk7 : TOk Try.prog 7 ti7 := ⟨by kernel_rfl, by kernel_rfl⟩
def ti8 : TI := ⟨4, .agg #[.int .i64 0, .int .i64 0, .bool false, .int .u8 0], 24, .struct [(0, 2), (1, 3), (2, 4), (3, 6)], [none, none, none, none]⟩
theorem tk8 : TOk Try.prog 8 ti8 := ⟨by kernel_rfl, by kernel_rfl⟩
def ti9 : TI := ⟨1, .string ⟨#[]⟩, 16, .str, [none]⟩
theorem tk9 : TOk Try.prog 9 ti9 := ⟨by kernel_rfl, by kernel_rfl⟩
def ti10 : TI := ⟨1, .string ⟨#[]⟩, 16, .str, [none]⟩
theorem tk10 : TOk Try.prog 10 ti10 := ⟨by kernel_rfl, by kernel_rfl⟩
def ti11 : TI := ⟨1, .string ⟨#[]⟩, 16, .str, [none]⟩
theorem tk11 : TOk Try.prog 11 ti11 := ⟨by kernel_rfl, by kernel_rfl⟩
def ti12 : TI := ⟨1, .int .u64 0, 8, .int .u64, [none]⟩
theorem tk12 : TOk Try.prog 12 ti12 := ⟨by kernel_rfl, by kernel_rfl⟩
def ti13 : TI := ⟨2, .agg #[.string ⟨#[]⟩, .int .u64 0], 24, .struct [(0, 9), (1, 12)], [none, none]⟩
theorem tk13 : TOk Try.prog 13 ti13 := ⟨by kernel_rfl, by kernel_rfl⟩
def ti14 : TI := ⟨2, .agg #[.string ⟨#[]⟩, .int .u64 0], 24, .struct [(0, 9), (1, 12)], [none, none]⟩
theorem tk14 : TOk Try.prog 14 ti14 := ⟨by kernel_rfl, by kernel_rfl⟩
def ti15 : TI := ⟨1, .pointer none, 8, .word, [none]⟩
theorem tk15 : TOk Try.prog 15 ti15 := ⟨by kernel_rfl, by kernel_rfl⟩
def ti16 : TI := ⟨1, .pointer none, 8, .word, [none]⟩
theorem tk16 : TOk Try.prog 16 ti16 := ⟨by kernel_rfl, by kernel_rfl⟩
def ti17 : TI := ⟨1, .pointer none, 8, .word, [none]⟩
theorem tk17 : TOk Try.prog 17 ti17 := ⟨by kernel_rfl, by kernel_rfl⟩
def ti18 : TI := ⟨1, .agg #[.pointer none], 8, .struct [(0, 17)], [none]⟩
theorem tk18 : TOk Try.prog 18 ti18 := ⟨by kernel_rfl, by kernel_rfl⟩
def ti19 : TI := ⟨1, .agg #[.pointer none], 8, .struct [(0, 17)], [none]⟩
theorem tk19 : TOk Try.prog 19 ti19 := ⟨by kernel_rfl, by kernel_rfl⟩
def ti20 : TI := ⟨1, .nilIface, 16, .word, [none]⟩
theorem tk20 : TOk Try.prog 20 ti20 := ⟨by kernel_rfl, by kernel_rfl⟩
def ti21 : TI := ⟨1, .int .i32 0, 4, .int .i32, [none]⟩
theorem tk21 : TOk Try.prog 21 ti21 := ⟨by kernel_rfl, by kernel_rfl⟩
def ti22 : TI := ⟨1, .slice none 0 0, 24, .slice 52, [some 2]⟩
theorem tk22 : TOk Try.prog 22 ti22 := ⟨by kernel_rfl, by kernel_rfl⟩
def ti23 : TI := ⟨2, .agg #[.slice none 0 0, .slice none 0 0], 48, .struct [(0, 22), (1, 22)], [some 2, some 2]⟩
theorem tk23 : TOk Try.prog 23 ti23 := ⟨by kernel_rfl, by kernel_rfl⟩
def ti24 : TI := ⟨2, .agg #[.slice none 0 0, .slice none 0 0], 48, .struct [(0, 22), (1, 22)], [some 2, some 2]⟩
theorem tk24 : TOk Try.prog 24 ti24 := ⟨by kernel_rfl, by kernel_rfl⟩
def ti25 : TI := ⟨8, .agg #[.slice none 0 0, .slice none 0 0, .slice none 0 0, .slice none 0 0, .bool false, .int .i64 0, .slice none 0 0, .slice none 0 0], 160, .struct [(0, 24), (2, 24), (4, 4), (5, 3), (6, 24)], [some 2, some 2, some 2, some 2, none, none, some 2, some 2]⟩
theorem tk25 : TOk Try.prog 25 ti25 := ⟨by kernel_rfl, by kernel_rfl⟩
def ti26 : TI := ⟨8, .agg #[.slice none 0 0, .slice none 0 0, .slice none 0 0, .slice none 0 0, .bool false, .int .i64 0, .slice none 0 0, .slice none 0 0], 160, .struct [(0, 24), (2, 24), (4, 4), (5, 3), (6, 24)], [some 2, some 2, some 2, some 2, none, none, some 2, some 2]⟩
theorem tk26 : TOk Try.prog 26 ti26 := ⟨by kernel_rfl, by kernel_rfl⟩
def ti27 : TI := ⟨1, .slice none 0 0, 24, .slice 3, [some 1]⟩
theorem tk27 : TOk Try.prog 27 ti27 := ⟨by kernel_rfl, by kernel_rfl⟩
def ti30 : TI := ⟨1, .int .i64 0, 8, .int .i64, [none]⟩
theorem tk30 : TOk Try.prog 30 ti30 := ⟨by kernel_rfl, by kernel_rfl⟩
def ti40 : TI := ⟨1, .slice none 0 0, 24, .slice 24, [some 2]⟩
theorem tk40 : TOk Try.prog 40 ti40 := ⟨by kernel_rfl, by kernel_rfl⟩
def ti48 : TI := ⟨1, .int .u64 0, 8, .int .u64, [none]⟩
theorem tk48 : TOk Try.prog 48 ti48 := ⟨by kernel_rfl, by kernel_rfl⟩
def ti50 : TI := ⟨1, .int .u64 0, 8, .int .u64, [none]⟩
theorem tk50 : TOk Try.prog 50 ti50 := ⟨by kernel_rfl, by kernel_rfl⟩
def ti51 : TI := ⟨2, .agg #[.int .u64 0, .int .u64 0], 16, .struct [(0, 50), (1, 50)], [none, none]⟩
theorem tk51 : TOk Try.prog 51 ti51 := ⟨by kernel_rfl, by kernel_rfl⟩
def ti52 : TI := ⟨2, .agg #[.int .u64 0, .int .u64 0], 16, .struct [(0, 50), (1, 50)], [none, none]⟩
theorem tk52 : TOk Try.prog 52 ti52 := ⟨by kernel_rfl, by kernel_rfl⟩
def ti55 : TI := ⟨1, .slice none 0 0, 24, .slice 63, [some 3]⟩
theorem tk55 : TOk Try.prog 55 ti55 := ⟨by kernel_rfl, by kernel_rfl⟩
def ti57 : TI := ⟨1, .pointer none, 8, .word, [none]⟩
theorem tk57 : TOk Try.prog 57 ti57 := ⟨by kernel_rfl, by kernel_rfl⟩
def ti62 : TI := ⟨3, .agg #[.int .i64 0, .int .u64 0, .int .u64 0], 24, .struct [(0, 3), (1, 52)], [none, none, none]⟩
theorem tk62 : TOk Try.prog 62 ti62 := ⟨by kernel_rfl, by kernel_rfl⟩
def ti63 : TI := ⟨3, .agg #[.int .i64 0, .int .u64 0, .int .u64 0], 24, .struct [(0, 3), (1, 52)], [none, none, none]⟩
theorem tk63 : TOk Try.prog 63 ti63 := ⟨by kernel_rfl, by kernel_rfl⟩
def ti85 : TI := ⟨1, .slice none 0 0, 24, .slice 50, [some 1]⟩
theorem tk85 : TOk Try.prog 85 ti85 := ⟨by kernel_rfl, by kernel_rfl⟩
def ti94 : TI := ⟨1, .slice none 0 0, 24, .slice 22, [some 1]⟩
theorem tk94 : TOk Try.prog 94 ti94 := ⟨by kernel_rfl, by kernel_rfl⟩
def ti101 : TI := ⟨2, .agg #[.int .i64 0, .int .i64 0], 16, .arr 2 3, [none, none]⟩
theorem tk101 : TOk Try.prog 101 ti101 := ⟨by kernel_rfl, by kernel_rfl⟩
def ti121 : TI := ⟨1, .slice none 0 0, 24, .slice 126, [some 3]⟩
theorem tk121 : TOk Try.prog 121 ti121 := ⟨by kernel_rfl, by kernel_rfl⟩
def ti122 : TI := ⟨1, .slice none 0 0, 24, .slice 126, [some 3]⟩
theorem tk122 : TOk Try.prog 122 ti122 := ⟨by kernel_rfl, by kernel_rfl⟩
def ti123 : TI := ⟨4, .agg #[.slice none 0 0, .int .u64 0, .int .u64 0, .bool false], 48, .struct [(0, 122), (1, 52), (3, 4)], [some 3, none, none, none]⟩
theorem tk123 : TOk Try.prog 123 ti123 := ⟨by kernel_rfl, by kernel_rfl⟩
def ti124 : TI := ⟨4, .agg #[.slice none 0 0, .int .u64 0, .int .u64 0, .bool false], 48, .struct [(0, 122), (1, 52), (3, 4)], [some 3, none, none, none]⟩
theorem tk124 : TOk Try.prog 124 ti124 := ⟨by kernel_rfl, by kernel_rfl⟩
def ti125 : TI := ⟨3, .agg #[.int .i64 0, .bool false, .slice none 0 0], 40, .struct [(0, 3), (1, 4), (2, 22)], [none, none, some 2]⟩
theorem tk125 : TOk Try.prog 125 ti125 := ⟨by kernel_rfl, by kernel_rfl⟩
def ti126 : TI := ⟨3, .agg #[.int .i64 0, .bool false, .slice none 0 0], 40, .struct [(0, 3), (1, 4), (2, 22)], [none, none, some 2]⟩
theorem tk126 : TOk Try.prog 126 ti126 := ⟨by kernel_rfl, by kernel_rfl⟩
def ti128 : TI := ⟨1, .pointer none, 8, .word, [none]⟩
theorem tk128 : TOk Try.prog 128 ti128 := ⟨by kernel_rfl, by kernel_rfl⟩
def ti148 : TI := ⟨2, .agg #[.bool false, .bool false], 2, .struct [(0, 4), (1, 4)], [none, none]⟩
theorem tk148 : TOk Try.prog 148 ti148 := ⟨by kernel_rfl, by kernel_rfl⟩
def ti149 : TI := ⟨2, .agg #[.bool false, .bool false], 2, .struct [(0, 4), (1, 4)], [none, none]⟩
theorem tk149 : TOk Try.prog 149 ti149 := ⟨by kernel_rfl, by kernel_rfl⟩
def ti151 : TI := ⟨1, .map none, 8, .word, [none]⟩
theorem tk151 : TOk Try.prog 151 ti151 := ⟨by kernel_rfl, by kernel_rfl⟩
def ti164 : TI := ⟨1, .nilIface, 16, .word, [none]⟩
theorem tk164 : TOk Try.prog 164 ti164 := ⟨by kernel_rfl, by kernel_rfl⟩
def ti165 : TI := ⟨1, .nilIface, 16, .word, [none]⟩
theorem tk165 : TOk Try.prog 165 ti165 := ⟨by kernel_rfl, by kernel_rfl⟩
def ti179 : TI := ⟨2, .agg #[.slice none 0 0, .slice none 0 0], 48, .arr 2 22, [some 2, some 2]⟩
theorem tk179 : TOk Try.prog 179 ti179 := ⟨by kernel_rfl, by kernel_rfl⟩
def ti182 : TI := ⟨1, .slice none 0 0, 24, .slice 40, [some 1]⟩
theorem tk182 : TOk Try.prog 182 ti182 := ⟨by kernel_rfl, by kernel_rfl⟩
def ti196 : TI := ⟨1, .int .i64 0, 8, .int .i64, [none]⟩
theorem tk196 : TOk Try.prog 196 ti196 := ⟨by kernel_rfl, by kernel_rfl⟩
def ti203 : TI := ⟨1, .int .u32 0, 4, .int .u32, [none]⟩
theorem tk203 : TOk Try.prog 203 ti203 := ⟨by kernel_rfl, by kernel_rfl⟩
def ti205 : TI := ⟨1, .int .u64 0, 8, .int .u64, [none]⟩
theorem tk205 : TOk Try.prog 205 ti205 := ⟨by kernel_rfl, by kernel_rfl⟩
def ti209 : TI := ⟨1, .pointer none, 8, .word, [none]⟩
theorem tk209 : TOk Try.prog 209 ti209 := ⟨by kernel_rfl, by kernel_rfl⟩
def ti211 : TI := ⟨1, .pointer none, 8, .word, [none]⟩
theorem tk211 : TOk Try.prog 211 ti211 := ⟨by kernel_rfl, by kernel_rfl⟩
def ti215 : TI := ⟨4, .agg #[.pointer none, .pointer none, .pointer none, .string ⟨#[]⟩], 40, .struct [(0, 17), (1, 17), (2, 17), (3, 9)], [none, none, none, none]⟩
theorem tk215 : TOk Try.prog 215 ti215 := ⟨by kernel_rfl, by kernel_rfl⟩
def ti216 : TI := ⟨4, .agg #[.pointer none, .pointer none, .pointer none, .string ⟨#[]⟩], 40, .struct [(0, 17), (1, 17), (2, 17), (3, 9)], [none, none, none, none]⟩
theorem tk216 : TOk Try.prog 216 ti216 := ⟨by kernel_rfl, by kernel_rfl⟩
def ti217 : TI := ⟨0, .agg #[], 0, .arr 0 16, []⟩
theorem tk217 : TOk Try.prog 217 ti217 := ⟨by kernel_rfl, by kernel_rfl⟩
def ti218 : TI := ⟨0, .agg #[], 0, .struct [(0, 217)], []⟩
theorem tk218 : TOk Try.prog 218 ti218 := ⟨by kernel_rfl, by kernel_rfl⟩
def ti219 : TI := ⟨0, .agg #[], 0, .struct [(0, 217)], []⟩
theorem tk219 : TOk Try.prog 219 ti219 := ⟨by kernel_rfl, by kernel_rfl⟩
def ti220 : TI := ⟨1, .int .u8 0, 1, .int .u8, [none]⟩
theorem tk220 : TOk Try.prog 220 ti220 := ⟨by kernel_rfl, by kernel_rfl⟩
def ti221 : TI := ⟨1, .int .u8 0, 1, .int .u8, [none]⟩
theorem tk221 : TOk Try.prog 221 ti221 := ⟨by kernel_rfl, by kernel_rfl⟩
def ti223 : TI := ⟨1, .pointer none, 8, .word, [none]⟩
theorem tk223 : TOk Try.prog 223 ti223 := ⟨by kernel_rfl, by kernel_rfl⟩
def ti224 : TI := ⟨1, .int .i32 0, 4, .int .i32, [none]⟩
theorem tk224 : TOk Try.prog 224 ti224 := ⟨by kernel_rfl, by kernel_rfl⟩
def ti225 : TI := ⟨1, .int .i32 0, 4, .int .i32, [none]⟩
theorem tk225 : TOk Try.prog 225 ti225 := ⟨by kernel_rfl, by kernel_rfl⟩
def ti226 : TI := ⟨11, .agg #[.int .u64 0, .int .u64 0, .int .u32 0, .int .u8 0, .int .u8 0, .int .u8 0, .int .u8 0, .nilFunc, .pointer none, .int .i32 0, .int .i32 0], 48, .struct [(0, 12), (1, 12), (2, 203), (3, 220), (4, 5), (5, 5), (6, 221), (7, 222), (8, 223), (9, 224), (10, 225)], [none, none, none, none, none, none, none, none, none, none, none]⟩
theorem tk226 : TOk Try.prog 226 ti226 := ⟨by kernel_rfl, by kernel_rfl⟩
def ti227 : TI := ⟨11, .agg #[.int .u64 0, .int .u64 0, .int .u32 0, .int .u8 0, .int .u8 0, .int .u8 0, .int .u8 0, .nilFunc, .pointer none, .int .i32 0, .int .i32 0], 48, .struct [(0, 12), (1, 12), (2, 203), (3, 220), (4, 5), (5, 5), (6, 221), (7, 222), (8, 223), (9, 224), (10, 225)], [none, none, none, none, none, none, none, none, none, none, none]⟩
theorem tk227 : TOk Try.prog 227 ti227 := ⟨by kernel_rfl, by kernel_rfl⟩
def tyf : TypeId → Option TI
  | 2 => some ti2
  | 3 => some ti3
  | 4 => some ti4
  | 5 => some ti5
  | 6 => some ti6
  | 7 => some ti7
  | 8 => some ti8
  | 9 => some ti9
  | 10 => some ti10
  | 11 => some ti11
  | 12 => some ti12
  | 13 => some ti13
  | 14 => some ti14
  | 15 => some ti15
  | 16 => some ti16
  | 17 => some ti17
  | 18 => some ti18
  | 19 => some ti19
  | 20 => some ti20
  | 21 => some ti21
  | 22 => some ti22
  | 23 => some ti23
  | 24 => some ti24
  | 25 => some ti25
  | 26 => some ti26
  | 27 => some ti27
  | 30 => some ti30
  | 40 => some ti40
  | 48 => some ti48
  | 50 => some ti50
  | 51 => some ti51
  | 52 => some ti52
  | 55 => some ti55
  | 57 => some ti57
  | 62 => some ti62
  | 63 => some ti63
  | 85 => some ti85
  | 94 => some ti94
  | 101 => some ti101
  | 121 => some ti121
  | 122 => some ti122
  | 123 => some ti123
  | 124 => some ti124
  | 125 => some ti125
  | 126 => some ti126
  | 128 => some ti128
  | 148 => some ti148
  | 149 => some ti149
  | 151 => some ti151
  | 164 => some ti164
  | 165 => some ti165
  | 179 => some ti179
  | 182 => some ti182
  | 196 => some ti196
  | 203 => some ti203
  | 205 => some ti205
  | 209 => some ti209
  | 211 => some ti211
  | 215 => some ti215
  | 216 => some ti216
  | 217 => some ti217
  | 218 => some ti218
  | 219 => some ti219
  | 220 => some ti220
  | 221 => some ti221
  | 223 => some ti223
  | 224 => some ti224
  | 225 => some ti225
  | 226 => some ti226
  | 227 => some ti227
  | _ => none
def ty : Tab Try.prog where
  f := tyf
  ok := fun t i h => by
    unfold tyf at h
    split at h
    all_goals first
      | (cases h; done)
      | (cases h; exact tk2)
      | (cases h; exact tk3)
      | (cases h; exact tk4)
      | (cases h; exact tk5)
      | (cases h; exact tk6)
      | (cases h; exact tk7)
      | (cases h; exact tk8)
      | (cases h; exact tk9)
      | (cases h; exact tk10)
      | (cases h; exact tk11)
      | (cases h; exact tk12)
      | (cases h; exact tk13)
      | (cases h; exact tk14)
      | (cases h; exact tk15)
      | (cases h; exact tk16)
      | (cases h; exact tk17)
      | (cases h; exact tk18)
      | (cases h; exact tk19)
      | (cases h; exact tk20)
      | (cases h; exact tk21)
      | (cases h; exact tk22)
      | (cases h; exact tk23)
      | (cases h; exact tk24)
      | (cases h; exact tk25)
      | (cases h; exact tk26)
      | (cases h; exact tk27)
      | (cases h; exact tk30)
      | (cases h; exact tk40)
      | (cases h; exact tk48)
      | (cases h; exact tk50)
      | (cases h; exact tk51)
      | (cases h; exact tk52)
      | (cases h; exact tk55)
      | (cases h; exact tk57)
      | (cases h; exact tk62)
      | (cases h; exact tk63)
      | (cases h; exact tk85)
      | (cases h; exact tk94)
      | (cases h; exact tk101)
      | (cases h; exact tk121)
      | (cases h; exact tk122)
      | (cases h; exact tk123)
      | (cases h; exact tk124)
      | (cases h; exact tk125)
      | (cases h; exact tk126)
      | (cases h; exact tk128)
      | (cases h; exact tk148)
      | (cases h; exact tk149)
      | (cases h; exact tk151)
      | (cases h; exact tk164)
      | (cases h; exact tk165)
      | (cases h; exact tk179)
      | (cases h; exact tk182)
      | (cases h; exact tk196)
      | (cases h; exact tk203)
      | (cases h; exact tk205)
      | (cases h; exact tk209)
      | (cases h; exact tk211)
      | (cases h; exact tk215)
      | (cases h; exact tk216)
      | (cases h; exact tk217)
      | (cases h; exact tk218)
      | (cases h; exact tk219)
      | (cases h; exact tk220)
      | (cases h; exact tk221)
      | (cases h; exact tk223)
      | (cases h; exact tk224)
      | (cases h; exact tk225)
      | (cases h; exact tk226)
      | (cases h; exact tk227)
theorem ty2 : ty.f 2 = some ⟨1, .int .i64 0, 8, .int .i64, [none]⟩ := rfl
theorem ty3 : ty.f 3 = some ⟨1, .int .i64 0, 8, .int .i64, [none]⟩ := rfl
theorem ty4 : ty.f 4 = some ⟨1, .bool false, 1, .bool, [none]⟩ := rfl
theorem ty5 : ty.f 5 = some ⟨1, .int .u8 0, 1, .int .u8, [none]⟩ := rfl
theorem ty6 : ty.f 6 = some ⟨1, .int .u8 0, 1, .int .u8, [none]⟩ := rfl
theorem ty7 : ty.f 7 = some ⟨4, .agg #[.int .i64 0, .int .i64 0, .bool false, .int .u8 0], 24, .struct [(0, 2), (1, 3), (2, 4), (3, 6)], [none, none, none, none]⟩ := rfl
theorem ty8 : ty.f 8 = some ⟨4, .agg #[.int .i64 0, .int .i64 0, .bool false, .int .u8 0], 24, .struct [(0, 2), (1, 3), (2, 4), (3, 6)], [none, none, none, none]⟩ := rfl
theorem ty9 : ty.f 9 = some ⟨1, .string ⟨#[]⟩, 16, .str, [none]⟩ := rfl
theorem ty10 : ty.f 10 = some ⟨1, .string ⟨#[]⟩, 16, .str, [none]⟩ := rfl
theorem ty11 : ty.f 11 = some ⟨1, .string ⟨#[]⟩, 16, .str, [none]⟩ := rfl
theorem ty12 : ty.f 12 = some ⟨1, .int .u64 0, 8, .int .u64, [none]⟩ := rfl
theorem ty13 : ty.f 13 = some ⟨2, .agg #[.string ⟨#[]⟩, .int .u64 0], 24, .struct [(0, 9), (1, 12)], [none, none]⟩ := rfl
theorem ty14 : ty.f 14 = some ⟨2, .agg #[.string ⟨#[]⟩, .int .u64 0], 24, .struct [(0, 9), (1, 12)], [none, none]⟩ := rfl
theorem ty15 : ty.f 15 = some ⟨1, .pointer none, 8, .word, [none]⟩ := rfl
theorem ty16 : ty.f 16 = some ⟨1, .pointer none, 8, .word, [none]⟩ := rfl
theorem ty17 : ty.f 17 = some ⟨1, .pointer none, 8, .word, [none]⟩ := rfl
theorem ty18 : ty.f 18 = some ⟨1, .agg #[.pointer none], 8, .struct [(0, 17)], [none]⟩ := rfl
theorem ty19 : ty.f 19 = some ⟨1, .agg #[.pointer none], 8, .struct [(0, 17)], [none]⟩ := rfl
theorem ty20 : ty.f 20 = some ⟨1, .nilIface, 16, .word, [none]⟩ := rfl
theorem ty21 : ty.f 21 = some ⟨1, .int .i32 0, 4, .int .i32, [none]⟩ := rfl
theorem ty22 : ty.f 22 = some ⟨1, .slice none 0 0, 24, .slice 52, [some 2]⟩ := rfl
theorem ty23 : ty.f 23 = some ⟨2, .agg #[.slice none 0 0, .slice none 0 0], 48, .struct [(0, 22), (1, 22)], [some 2, some 2]⟩ := rfl
theorem ty24 : ty.f 24 = some ⟨2, .agg #[.slice none 0 0, .slice none 0 0], 48, .struct [(0, 22), (1, 22)], [some 2, some 2]⟩ := rfl
theorem ty25 : ty.f 25 = some ⟨8, .agg #[.slice none 0 0, .slice none 0 0, .slice none 0 0, .slice none 0 0, .bool false, .int .i64 0, .slice none 0 0, .slice none 0 0], 160, .struct [(0, 24), (2, 24), (4, 4), (5, 3), (6, 24)], [some 2, some 2, some 2, some 2, none, none, some 2, some 2]⟩ := rfl
theorem ty26 : ty.f 26 = some ⟨8, .agg #[.slice none 0 0, .slice none 0 0, .slice none 0 0, .slice none 0 0, .bool false, .int .i64 0, .slice none 0 0, .slice none 0 0], 160, .struct [(0, 24), (2, 24), (4, 4), (5, 3), (6, 24)], [some 2, some 2, some 2, some 2, none, none, some 2, some 2]⟩ := rfl
theorem ty27 : ty.f 27 = some ⟨1, .slice none 0 0, 24, .slice 3, [some 1]⟩ := rfl
theorem ty30 : ty.f 30 = some ⟨1, .int .i64 0, 8, .int .i64, [none]⟩ := rfl
theorem ty40 : ty.f 40 = some ⟨1, .slice none 0 0, 24, .slice 24, [some 2]⟩ := rfl
theorem ty48 : ty.f 48 = some ⟨1, .int .u64 0, 8, .int .u64, [none]⟩ := rfl
theorem ty50 : ty.f 50 = some ⟨1, .int .u64 0, 8, .int .u64, [none]⟩ := rfl
theorem ty51 : ty.f 51 = some ⟨2, .agg #[.int .u64 0, .int .u64 0], 16, .struct [(0, 50), (1, 50)], [none, none]⟩ := rfl
theorem ty52 : ty.f 52 = some ⟨2, .agg #[.int .u64 0, .int .u64 0], 16, .struct [(0, 50), (1, 50)], [none, none]⟩ := rfl
theorem ty55 : ty.f 55 = some ⟨1, .slice none 0 0, 24, .slice 63, [some 3]⟩ := rfl
theorem ty57 : ty.f 57 = some ⟨1, .pointer none, 8, .word, [none]⟩ := rfl
theorem ty62 : ty.f 62 = some ⟨3, .agg #[.int .i64 0, .int .u64 0, .int .u64 0], 24, .struct [(0, 3), (1, 52)], [none, none, none]⟩ := rfl
theorem ty63 : ty.f 63 = some ⟨3, .agg #[.int .i64 0, .int .u64 0, .int .u64 0], 24, .struct [(0, 3), (1, 52)], [none, none, none]⟩ := rfl
theorem ty85 : ty.f 85 = some ⟨1, .slice none 0 0, 24, .slice 50, [some 1]⟩ := rfl
theorem ty94 : ty.f 94 = some ⟨1, .slice none 0 0, 24, .slice 22, [some 1]⟩ := rfl
theorem ty101 : ty.f 101 = some ⟨2, .agg #[.int .i64 0, .int .i64 0], 16, .arr 2 3, [none, none]⟩ := rfl
theorem ty121 : ty.f 121 = some ⟨1, .slice none 0 0, 24, .slice 126, [some 3]⟩ := rfl
theorem ty122 : ty.f 122 = some ⟨1, .slice none 0 0, 24, .slice 126, [some 3]⟩ := rfl
theorem ty123 : ty.f 123 = some ⟨4, .agg #[.slice none 0 0, .int .u64 0, .int .u64 0, .bool false], 48, .struct [(0, 122), (1, 52), (3, 4)], [some 3, none, none, none]⟩ := rfl
theorem ty124 : ty.f 124 = some ⟨4, .agg #[.slice none 0 0, .int .u64 0, .int .u64 0, .bool false], 48, .struct [(0, 122), (1, 52), (3, 4)], [some 3, none, none, none]⟩ := rfl
theorem ty125 : ty.f 125 = some ⟨3, .agg #[.int .i64 0, .bool false, .slice none 0 0], 40, .struct [(0, 3), (1, 4), (2, 22)], [none, none, some 2]⟩ := rfl
theorem ty126 : ty.f 126 = some ⟨3, .agg #[.int .i64 0, .bool false, .slice none 0 0], 40, .struct [(0, 3), (1, 4), (2, 22)], [none, none, some 2]⟩ := rfl
theorem ty128 : ty.f 128 = some ⟨1, .pointer none, 8, .word, [none]⟩ := rfl
theorem ty148 : ty.f 148 = some ⟨2, .agg #[.bool false, .bool false], 2, .struct [(0, 4), (1, 4)], [none, none]⟩ := rfl
theorem ty149 : ty.f 149 = some ⟨2, .agg #[.bool false, .bool false], 2, .struct [(0, 4), (1, 4)], [none, none]⟩ := rfl
theorem ty151 : ty.f 151 = some ⟨1, .map none, 8, .word, [none]⟩ := rfl
theorem ty164 : ty.f 164 = some ⟨1, .nilIface, 16, .word, [none]⟩ := rfl
theorem ty165 : ty.f 165 = some ⟨1, .nilIface, 16, .word, [none]⟩ := rfl
theorem ty179 : ty.f 179 = some ⟨2, .agg #[.slice none 0 0, .slice none 0 0], 48, .arr 2 22, [some 2, some 2]⟩ := rfl
theorem ty182 : ty.f 182 = some ⟨1, .slice none 0 0, 24, .slice 40, [some 1]⟩ := rfl
theorem ty196 : ty.f 196 = some ⟨1, .int .i64 0, 8, .int .i64, [none]⟩ := rfl
theorem ty203 : ty.f 203 = some ⟨1, .int .u32 0, 4, .int .u32, [none]⟩ := rfl
theorem ty205 : ty.f 205 = some ⟨1, .int .u64 0, 8, .int .u64, [none]⟩ := rfl
theorem ty209 : ty.f 209 = some ⟨1, .pointer none, 8, .word, [none]⟩ := rfl
theorem ty211 : ty.f 211 = some ⟨1, .pointer none, 8, .word, [none]⟩ := rfl
theorem ty215 : ty.f 215 = some ⟨4, .agg #[.pointer none, .pointer none, .pointer none, .string ⟨#[]⟩], 40, .struct [(0, 17), (1, 17), (2, 17), (3, 9)], [none, none, none, none]⟩ := rfl
theorem ty216 : ty.f 216 = some ⟨4, .agg #[.pointer none, .pointer none, .pointer none, .string ⟨#[]⟩], 40, .struct [(0, 17), (1, 17), (2, 17), (3, 9)], [none, none, none, none]⟩ := rfl
theorem ty217 : ty.f 217 = some ⟨0, .agg #[], 0, .arr 0 16, []⟩ := rfl
theorem ty218 : ty.f 218 = some ⟨0, .agg #[], 0, .struct [(0, 217)], []⟩ := rfl
theorem ty219 : ty.f 219 = some ⟨0, .agg #[], 0, .struct [(0, 217)], []⟩ := rfl
theorem ty220 : ty.f 220 = some ⟨1, .int .u8 0, 1, .int .u8, [none]⟩ := rfl
theorem ty221 : ty.f 221 = some ⟨1, .int .u8 0, 1, .int .u8, [none]⟩ := rfl
theorem ty223 : ty.f 223 = some ⟨1, .pointer none, 8, .word, [none]⟩ := rfl
theorem ty224 : ty.f 224 = some ⟨1, .int .i32 0, 4, .int .i32, [none]⟩ := rfl
theorem ty225 : ty.f 225 = some ⟨1, .int .i32 0, 4, .int .i32, [none]⟩ := rfl
theorem ty226 : ty.f 226 = some ⟨11, .agg #[.int .u64 0, .int .u64 0, .int .u32 0, .int .u8 0, .int .u8 0, .int .u8 0, .int .u8 0, .nilFunc, .pointer none, .int .i32 0, .int .i32 0], 48, .struct [(0, 12), (1, 12), (2, 203), (3, 220), (4, 5), (5, 5), (6, 221), (7, 222), (8, 223), (9, 224), (10, 225)], [none, none, none, none, none, none, none, none, none, none, none]⟩ := rfl
theorem ty227 : ty.f 227 = some ⟨11, .agg #[.int .u64 0, .int .u64 0, .int .u32 0, .int .u8 0, .int .u8 0, .int .u8 0, .int .u8 0, .nilFunc, .pointer none, .int .i32 0, .int .i32 0], 48, .struct [(0, 12), (1, 12), (2, 203), (3, 220), (4, 5), (5, 5), (6, 221), (7, 222), (8, 223), (9, 224), (10, 225)], [none, none, none, none, none, none, none, none, none, none, none]⟩ := rfl
end Go.Proofs.Ytlkdkhmdmgchbaa
