/- The table of the types of the door seat, as the walk wants it. -/
import Derived.Test.YtgdlhcaidfokkaaDoorChecked
import Derived.KernelRfl
import Derived.Test.YtgdlhcaidfokkaaDoorSy21
set_option linter.unusedSimpArgs false
set_option linter.unusedVariables false
namespace Go.Proofs
open Go.Sy
def Tryd.tabF : Tab := fun t =>
 (bif Nat.blt t 65 then
 (bif Nat.blt t 32 then
  (bif Nat.blt t 15 then
   (bif Nat.blt t 8 then
    (bif Nat.blt t 4 then
     (bif Nat.blt t 2 then
      (bif Nat.beq t 1 then some ⟨1, 8, false, [.nilFunc], .other⟩ else none)
      else (bif Nat.blt t 3 then
       some ⟨1, 8, false, [.int .i64 0], .int .i64⟩
       else some ⟨1, 8, false, [.int .i64 0], .int .i64⟩))
     else (bif Nat.blt t 6 then
      (bif Nat.blt t 5 then
       some ⟨1, 1, false, [.bool false], .bool⟩
       else some ⟨1, 1, false, [.int .u8 0], .int .u8⟩)
      else (bif Nat.blt t 7 then
       some ⟨1, 1, false, [.int .u8 0], .int .u8⟩
       else some ⟨4, 24, true, [.int .i64 0, .int .i64 0, .bool false, .int .u8 0], .struct [(0, 1), (1, 1), (2, 1), (3, 1)]⟩)))
    else (bif Nat.blt t 11 then
     (bif Nat.blt t 9 then
      some ⟨4, 24, true, [.int .i64 0, .int .i64 0, .bool false, .int .u8 0], .struct [(0, 1), (1, 1), (2, 1), (3, 1)]⟩
      else (bif Nat.blt t 10 then
       some ⟨1, 16, false, [.string ⟨#[]⟩], .str⟩
       else some ⟨1, 16, false, [.string ⟨#[]⟩], .str⟩))
     else (bif Nat.blt t 13 then
      (bif Nat.blt t 12 then
       some ⟨1, 16, false, [.string ⟨#[]⟩], .str⟩
       else some ⟨1, 8, false, [.int .u64 0], .int .u64⟩)
      else (bif Nat.blt t 14 then
       some ⟨2, 24, true, [.string ⟨#[]⟩, .int .u64 0], .struct [(0, 1), (1, 1)]⟩
       else some ⟨2, 24, true, [.string ⟨#[]⟩, .int .u64 0], .struct [(0, 1), (1, 1)]⟩))))
   else (bif Nat.blt t 22 then
    (bif Nat.blt t 18 then
     (bif Nat.blt t 16 then
      some ⟨1, 8, false, [.pointer none], .other⟩
      else (bif Nat.blt t 17 then
       some ⟨1, 8, false, [.pointer none], .other⟩
       else some ⟨1, 8, false, [.pointer none], .other⟩))
     else (bif Nat.blt t 20 then
      (bif Nat.blt t 19 then
       some ⟨1, 8, true, [.pointer none], .struct [(0, 1)]⟩
       else some ⟨1, 8, true, [.pointer none], .struct [(0, 1)]⟩)
      else (bif Nat.blt t 21 then
       some ⟨1, 16, false, [.nilIface], .other⟩
       else some ⟨1, 4, false, [.int .i32 0], .int .i32⟩)))
    else (bif Nat.blt t 26 then
     (bif Nat.blt t 24 then
      (bif Nat.blt t 23 then
       some ⟨1, 8, false, [.nilFunc], .other⟩
       else some ⟨1, 8, false, [.nilFunc], .other⟩)
      else (bif Nat.blt t 25 then
       some ⟨1, 8, false, [.nilFunc], .other⟩
       else some ⟨1, 8, false, [.nilFunc], .other⟩))
     else (bif Nat.blt t 30 then
      (bif Nat.blt t 28 then
       (bif Nat.beq t 26 then some ⟨1, 8, false, [.int .i64 0], .int .i64⟩ else none)
       else (bif Nat.beq t 28 then some ⟨1, 8, false, [.nilFunc], .other⟩ else none))
      else (bif Nat.blt t 31 then
       some ⟨1, 8, false, [.nilFunc], .other⟩
       else some ⟨1, 8, false, [.int .u64 0], .int .u64⟩)))))
  else (bif Nat.blt t 49 then
   (bif Nat.blt t 41 then
    (bif Nat.blt t 35 then
     (bif Nat.blt t 33 then
      some ⟨3, 32, true, [.int .u64 0, .int .i64 0, .string ⟨#[]⟩], .struct [(0, 1), (1, 1), (2, 1)]⟩
      else (bif Nat.blt t 34 then
       some ⟨3, 32, true, [.int .u64 0, .int .i64 0, .string ⟨#[]⟩], .struct [(0, 1), (1, 1), (2, 1)]⟩
       else some ⟨1, 8, false, [.nilFunc], .other⟩))
     else (bif Nat.blt t 37 then
      (bif Nat.blt t 36 then
       some ⟨3, 32, true, [.int .u64 0, .int .i64 0, .string ⟨#[]⟩], .struct [(0, 1), (1, 1), (2, 1)]⟩
       else some ⟨1, 8, false, [.nilFunc], .other⟩)
      else (bif Nat.blt t 39 then
       (bif Nat.beq t 37 then some ⟨1, 8, false, [.nilFunc], .other⟩ else none)
       else (bif Nat.beq t 39 then some ⟨1, 8, false, [.nilFunc], .other⟩ else none))))
    else (bif Nat.blt t 45 then
     (bif Nat.blt t 42 then
      some ⟨1, 8, false, [.nilFunc], .other⟩
      else (bif Nat.blt t 43 then
       some ⟨1, 8, false, [.nilFunc], .other⟩
       else (bif Nat.beq t 43 then some ⟨1, 8, false, [.nilFunc], .other⟩ else none)))
     else (bif Nat.blt t 47 then
      (bif Nat.blt t 46 then
       some ⟨1, 8, false, [.nilFunc], .other⟩
       else some ⟨1, 8, false, [.nilFunc], .other⟩)
      else (bif Nat.blt t 48 then
       some ⟨1, 8, false, [.nilFunc], .other⟩
       else some ⟨1, 8, false, [.int .u64 0], .int .u64⟩))))
   else (bif Nat.blt t 56 then
    (bif Nat.blt t 52 then
     (bif Nat.blt t 50 then
      some ⟨1, 8, false, [.nilFunc], .other⟩
      else (bif Nat.blt t 51 then
       some ⟨1, 24, false, [.slice none 0 0], .slice 5⟩
       else some ⟨1, 8, false, [.nilFunc], .other⟩))
     else (bif Nat.blt t 54 then
      (bif Nat.blt t 53 then
       some ⟨1, 8, false, [.nilFunc], .other⟩
       else some ⟨1, 8, false, [.nilFunc], .other⟩)
      else (bif Nat.blt t 55 then
       some ⟨1, 8, false, [.nilFunc], .other⟩
       else some ⟨1, 8, false, [.nilFunc], .other⟩)))
    else (bif Nat.blt t 61 then
     (bif Nat.blt t 58 then
      (bif Nat.blt t 57 then
       some ⟨1, 8, false, [.nilFunc], .other⟩
       else some ⟨3, 32, true, [.int .i64 0, .int .i64 0, .string ⟨#[]⟩], .struct [(0, 1), (1, 1), (2, 1)]⟩)
      else (bif Nat.blt t 60 then
       (bif Nat.beq t 58 then some ⟨3, 32, true, [.int .i64 0, .int .i64 0, .string ⟨#[]⟩], .struct [(0, 1), (1, 1), (2, 1)]⟩ else none)
       else some ⟨1, 8, false, [.nilFunc], .other⟩))
     else (bif Nat.blt t 63 then
      (bif Nat.blt t 62 then
       some ⟨1, 8, false, [.pointer none], .other⟩
       else some ⟨1, 8, false, [.nilFunc], .other⟩)
      else (bif Nat.blt t 64 then
       some ⟨1, 8, false, [.nilFunc], .other⟩
       else some ⟨1, 8, false, [.nilFunc], .other⟩))))))
 else (bif Nat.blt t 103 then
  (bif Nat.blt t 86 then
   (bif Nat.blt t 78 then
    (bif Nat.blt t 70 then
     (bif Nat.blt t 66 then
      some ⟨1, 8, false, [.nilFunc], .other⟩
      else (bif Nat.blt t 68 then
       (bif Nat.beq t 66 then some ⟨1, 8, false, [.nilFunc], .other⟩ else none)
       else (bif Nat.beq t 68 then some ⟨1, 8, false, [.nilFunc], .other⟩ else none)))
     else (bif Nat.blt t 73 then
      (bif Nat.blt t 71 then
       some ⟨1, 8, false, [.nilFunc], .other⟩
       else (bif Nat.beq t 71 then some ⟨1, 8, false, [.nilFunc], .other⟩ else none))
      else (bif Nat.blt t 74 then
       some ⟨1, 8, false, [.nilFunc], .other⟩
       else (bif Nat.beq t 74 then some ⟨1, 8, false, [.nilFunc], .other⟩ else none))))
    else (bif Nat.blt t 81 then
     (bif Nat.blt t 79 then
      some ⟨1, 8, false, [.nilFunc], .other⟩
      else (bif Nat.blt t 80 then
       some ⟨1, 8, false, [.nilFunc], .other⟩
       else some ⟨1, 8, false, [.pointer none], .other⟩))
     else (bif Nat.blt t 84 then
      (bif Nat.blt t 83 then
       (bif Nat.beq t 81 then some ⟨1, 8, false, [.nilFunc], .other⟩ else none)
       else some ⟨1, 8, false, [.nilFunc], .other⟩)
      else (bif Nat.blt t 85 then
       some ⟨1, 8, false, [.pointer none], .other⟩
       else some ⟨2, 32, true, [.pointer none, .slice none 0 0], .struct [(0, 1), (1, 1)]⟩))))
   else (bif Nat.blt t 94 then
    (bif Nat.blt t 89 then
     (bif Nat.blt t 87 then
      some ⟨2, 32, true, [.pointer none, .slice none 0 0], .struct [(0, 1), (1, 1)]⟩
      else (bif Nat.blt t 88 then
       some ⟨1, 8, false, [.nilFunc], .other⟩
       else some ⟨1, 16, false, [.nilIface], .other⟩))
     else (bif Nat.blt t 92 then
      (bif Nat.blt t 91 then
       (bif Nat.beq t 89 then some ⟨1, 16, false, [.nilIface], .other⟩ else none)
       else some ⟨1, 8, false, [.nilFunc], .other⟩)
      else (bif Nat.blt t 93 then
       some ⟨1, 24, false, [.slice none 0 0], .slice 9⟩
       else some ⟨1, 8, false, [.nilFunc], .other⟩)))
    else (bif Nat.blt t 99 then
     (bif Nat.blt t 97 then
      (bif Nat.blt t 96 then
       (bif Nat.beq t 94 then some ⟨4, 4, true, [.int .u8 0, .int .u8 0, .int .u8 0, .int .u8 0], .arr 4 5⟩ else none)
       else some ⟨1, 8, false, [.nilFunc], .other⟩)
      else (bif Nat.blt t 98 then
       some ⟨3, 32, true, [.string ⟨#[]⟩, .int .i64 0, .int .i64 0], .struct [(0, 1), (1, 1), (2, 1)]⟩
       else some ⟨3, 32, true, [.string ⟨#[]⟩, .int .i64 0, .int .i64 0], .struct [(0, 1), (1, 1), (2, 1)]⟩))
     else (bif Nat.blt t 101 then
      (bif Nat.blt t 100 then
       some ⟨1, 8, false, [.nilFunc], .other⟩
       else some ⟨1, 8, false, [.nilFunc], .other⟩)
      else (bif Nat.blt t 102 then
       some ⟨1, 8, false, [.nilFunc], .other⟩
       else some ⟨1, 8, false, [.nilFunc], .other⟩)))))
  else (bif Nat.blt t 121 then
   (bif Nat.blt t 111 then
    (bif Nat.blt t 107 then
     (bif Nat.blt t 105 then
      (bif Nat.beq t 103 then some ⟨1, 8, false, [.nilFunc], .other⟩ else none)
      else (bif Nat.blt t 106 then
       some ⟨2, 2, true, [.int .u8 0, .int .u8 0], .struct [(0, 1), (1, 1)]⟩
       else some ⟨2, 2, true, [.int .u8 0, .int .u8 0], .struct [(0, 1), (1, 1)]⟩))
     else (bif Nat.blt t 109 then
      (bif Nat.blt t 108 then
       some ⟨32, 32, true, [.int .u8 0, .int .u8 0, .int .u8 0, .int .u8 0, .int .u8 0, .int .u8 0, .int .u8 0, .int .u8 0, .int .u8 0, .int .u8 0, .int .u8 0, .int .u8 0, .int .u8 0, .int .u8 0, .int .u8 0, .int .u8 0, .int .u8 0, .int .u8 0, .int .u8 0, .int .u8 0, .int .u8 0, .int .u8 0, .int .u8 0, .int .u8 0, .int .u8 0, .int .u8 0, .int .u8 0, .int .u8 0, .int .u8 0, .int .u8 0, .int .u8 0, .int .u8 0], .arr 16 106⟩
       else some ⟨1, 8, false, [.nilFunc], .other⟩)
      else (bif Nat.blt t 110 then
       some ⟨1, 8, false, [.nilFunc], .other⟩
       else some ⟨1, 24, false, [.slice none 0 0], .slice 3⟩)))
    else (bif Nat.blt t 116 then
     (bif Nat.blt t 113 then
      (bif Nat.beq t 111 then some ⟨1, 4, false, [.int .u32 0], .int .u32⟩ else none)
      else (bif Nat.blt t 115 then
       (bif Nat.beq t 113 then some ⟨1, 8, false, [.nilFunc], .other⟩ else none)
       else some ⟨1, 8, false, [.nilFunc], .other⟩))
     else (bif Nat.blt t 119 then
      (bif Nat.blt t 118 then
       (bif Nat.beq t 116 then some ⟨1, 8, false, [.pointer none], .other⟩ else none)
       else some ⟨1, 8, false, [.nilFunc], .other⟩)
      else (bif Nat.blt t 120 then
       some ⟨1, 8, false, [.pointer none], .other⟩
       else some ⟨1, 8, false, [.nilFunc], .other⟩))))
   else (bif Nat.blt t 128 then
    (bif Nat.blt t 124 then
     (bif Nat.blt t 122 then
      some ⟨1, 8, false, [.nilFunc], .other⟩
      else (bif Nat.blt t 123 then
       some ⟨1, 8, false, [.nilFunc], .other⟩
       else some ⟨1, 8, false, [.nilFunc], .other⟩))
     else (bif Nat.blt t 126 then
      (bif Nat.blt t 125 then
       some ⟨4, 40, true, [.pointer none, .pointer none, .pointer none, .string ⟨#[]⟩], .struct [(0, 1), (1, 1), (2, 1), (3, 1)]⟩
       else some ⟨4, 40, true, [.pointer none, .pointer none, .pointer none, .string ⟨#[]⟩], .struct [(0, 1), (1, 1), (2, 1), (3, 1)]⟩)
      else (bif Nat.blt t 127 then
       some ⟨0, 0, true, [], .arr 0 16⟩
       else some ⟨0, 0, true, [], .struct [(0, 0)]⟩)))
    else (bif Nat.blt t 132 then
     (bif Nat.blt t 130 then
      (bif Nat.blt t 129 then
       some ⟨0, 0, true, [], .struct [(0, 0)]⟩
       else some ⟨1, 1, false, [.int .u8 0], .int .u8⟩)
      else (bif Nat.blt t 131 then
       some ⟨1, 1, false, [.int .u8 0], .int .u8⟩
       else some ⟨1, 8, false, [.nilFunc], .other⟩))
     else (bif Nat.blt t 134 then
      (bif Nat.blt t 133 then
       some ⟨1, 4, false, [.int .i32 0], .int .i32⟩
       else some ⟨1, 4, false, [.int .i32 0], .int .i32⟩)
      else (bif Nat.blt t 135 then
       some ⟨11, 48, true, [.int .u64 0, .int .u64 0, .int .u32 0, .int .u8 0, .int .u8 0, .int .u8 0, .int .u8 0, .nilFunc, .pointer none, .int .i32 0, .int .i32 0], .struct [(0, 1), (1, 1), (2, 1), (3, 1), (4, 1), (5, 1), (6, 1), (7, 1), (8, 1), (9, 1), (10, 1)]⟩
       else some ⟨11, 48, true, [.int .u64 0, .int .u64 0, .int .u32 0, .int .u8 0, .int .u8 0, .int .u8 0, .int .u8 0, .nilFunc, .pointer none, .int .i32 0, .int .i32 0], .struct [(0, 1), (1, 1), (2, 1), (3, 1), (4, 1), (5, 1), (6, 1), (7, 1), (8, 1), (9, 1), (10, 1)]⟩)))))))
def Tryd.tab : Tab := mkTab 136 Tryd.tabF
theorem Tryd.tabOK : TabOK Tryd.prog Tryd.tab := Go.Sy.tabOK (by kernel_rfl)


end Go.Proofs
