/- The table of the types of this seat, as the walk wants it. -/
import Derived.Test.YtgdlhcaidfokkaaChecked
import Derived.KernelRfl
import Derived.Test.YtgdlhcaidfokkaaSy12
set_option linter.unusedSimpArgs false
set_option linter.unusedVariables false
namespace Go.Proofs
open Go.Sy
def Try.tabF : Tab := fun t =>
 (bif Nat.blt t 142 then
 (bif Nat.blt t 68 then
  (bif Nat.blt t 34 then
   (bif Nat.blt t 17 then
    (bif Nat.blt t 9 then
     (bif Nat.blt t 5 then
      (bif Nat.blt t 3 then
       (bif Nat.blt t 2 then
        (bif Nat.beq t 1 then some ⟨1, 8, false, [.nilFunc], .other⟩ else none)
        else some ⟨1, 8, false, [.int .i64 0], .int .i64⟩)
       else (bif Nat.blt t 4 then
        some ⟨1, 8, false, [.int .i64 0], .int .i64⟩
        else some ⟨1, 1, false, [.bool false], .bool⟩))
      else (bif Nat.blt t 7 then
       (bif Nat.blt t 6 then
        some ⟨1, 1, false, [.int .u8 0], .int .u8⟩
        else some ⟨1, 1, false, [.int .u8 0], .int .u8⟩)
       else (bif Nat.blt t 8 then
        some ⟨4, 24, true, [.int .i64 0, .int .i64 0, .bool false, .int .u8 0], .struct [(0, 1), (1, 1), (2, 1), (3, 1)]⟩
        else some ⟨4, 24, true, [.int .i64 0, .int .i64 0, .bool false, .int .u8 0], .struct [(0, 1), (1, 1), (2, 1), (3, 1)]⟩)))
     else (bif Nat.blt t 13 then
      (bif Nat.blt t 11 then
       (bif Nat.blt t 10 then
        some ⟨1, 16, false, [.string ⟨#[]⟩], .str⟩
        else some ⟨1, 16, false, [.string ⟨#[]⟩], .str⟩)
       else (bif Nat.blt t 12 then
        some ⟨1, 16, false, [.string ⟨#[]⟩], .str⟩
        else some ⟨1, 8, false, [.int .u64 0], .int .u64⟩))
      else (bif Nat.blt t 15 then
       (bif Nat.blt t 14 then
        some ⟨2, 24, true, [.string ⟨#[]⟩, .int .u64 0], .struct [(0, 1), (1, 1)]⟩
        else some ⟨2, 24, true, [.string ⟨#[]⟩, .int .u64 0], .struct [(0, 1), (1, 1)]⟩)
       else (bif Nat.blt t 16 then
        some ⟨1, 8, false, [.pointer none], .other⟩
        else some ⟨1, 8, false, [.pointer none], .other⟩))))
    else (bif Nat.blt t 25 then
     (bif Nat.blt t 21 then
      (bif Nat.blt t 19 then
       (bif Nat.blt t 18 then
        some ⟨1, 8, false, [.pointer none], .other⟩
        else some ⟨1, 8, true, [.pointer none], .struct [(0, 1)]⟩)
       else (bif Nat.blt t 20 then
        some ⟨1, 8, true, [.pointer none], .struct [(0, 1)]⟩
        else some ⟨1, 16, false, [.nilIface], .other⟩))
      else (bif Nat.blt t 23 then
       (bif Nat.blt t 22 then
        some ⟨1, 4, false, [.int .i32 0], .int .i32⟩
        else some ⟨1, 24, false, [.slice none 0 0], .slice 3⟩)
       else (bif Nat.blt t 24 then
        some ⟨1, 8, false, [.nilFunc], .other⟩
        else some ⟨1, 8, false, [.nilFunc], .other⟩)))
     else (bif Nat.blt t 29 then
      (bif Nat.blt t 27 then
       (bif Nat.blt t 26 then
        some ⟨1, 8, false, [.nilFunc], .other⟩
        else some ⟨1, 8, false, [.nilFunc], .other⟩)
       else (bif Nat.blt t 28 then
        some ⟨1, 24, false, [.slice none 0 0], .slice 37⟩
        else some ⟨1, 24, false, [.slice none 0 0], .slice 34⟩))
      else (bif Nat.blt t 31 then
       (bif Nat.blt t 30 then
        some ⟨9, 72, true, [.int .i64 0, .int .i64 0, .int .i64 0, .int .i64 0, .int .i64 0, .int .i64 0, .int .i64 0, .int .i64 0, .int .i64 0], .struct [(0, 1), (1, 1), (2, 1), (3, 1), (4, 1), (5, 1), (6, 1), (7, 1), (8, 1)]⟩
        else some ⟨9, 72, true, [.int .i64 0, .int .i64 0, .int .i64 0, .int .i64 0, .int .i64 0, .int .i64 0, .int .i64 0, .int .i64 0, .int .i64 0], .struct [(0, 1), (1, 1), (2, 1), (3, 1), (4, 1), (5, 1), (6, 1), (7, 1), (8, 1)]⟩)
       else (bif Nat.blt t 32 then
        some ⟨4, 32, true, [.int .i64 0, .int .i64 0, .int .i64 0, .int .i64 0], .struct [(0, 1), (1, 1), (2, 1), (3, 1)]⟩
        else (bif Nat.blt t 33 then
         some ⟨4, 32, true, [.int .i64 0, .int .i64 0, .int .i64 0, .int .i64 0], .struct [(0, 1), (1, 1), (2, 1), (3, 1)]⟩
         else some ⟨21, 176, true, [.int .i64 0, .int .i64 0, .int .i64 0, .int .i64 0, .int .i64 0, .int .i64 0, .int .i64 0, .int .i64 0, .int .i64 0, .bool false, .int .i64 0, .int .i64 0, .int .i64 0, .int .i64 0, .int .i64 0, .int .i64 0, .int .i64 0, .int .i64 0, .int .i64 0, .int .i64 0, .string ⟨#[]⟩], .struct [(0, 9), (9, 1), (10, 4), (14, 1), (15, 1), (16, 1), (17, 1), (18, 1), (19, 1), (20, 1)]⟩))))))
   else (bif Nat.blt t 51 then
    (bif Nat.blt t 42 then
     (bif Nat.blt t 38 then
      (bif Nat.blt t 36 then
       (bif Nat.blt t 35 then
        some ⟨21, 176, true, [.int .i64 0, .int .i64 0, .int .i64 0, .int .i64 0, .int .i64 0, .int .i64 0, .int .i64 0, .int .i64 0, .int .i64 0, .bool false, .int .i64 0, .int .i64 0, .int .i64 0, .int .i64 0, .int .i64 0, .int .i64 0, .int .i64 0, .int .i64 0, .int .i64 0, .int .i64 0, .string ⟨#[]⟩], .struct [(0, 9), (9, 1), (10, 4), (14, 1), (15, 1), (16, 1), (17, 1), (18, 1), (19, 1), (20, 1)]⟩
        else some ⟨1, 8, false, [.nilFunc], .other⟩)
       else (bif Nat.blt t 37 then
        some ⟨19, 152, true, [.int .i64 0, .int .i64 0, .int .i64 0, .int .i64 0, .int .i64 0, .int .i64 0, .int .i64 0, .int .i64 0, .int .i64 0, .int .i64 0, .int .i64 0, .int .i64 0, .int .i64 0, .int .i64 0, .int .i64 0, .int .i64 0, .int .i64 0, .int .i64 0, .int .i64 0], .struct [(0, 9), (9, 1), (10, 1), (11, 1), (12, 1), (13, 1), (14, 1), (15, 1), (16, 1), (17, 1), (18, 1)]⟩
        else some ⟨19, 152, true, [.int .i64 0, .int .i64 0, .int .i64 0, .int .i64 0, .int .i64 0, .int .i64 0, .int .i64 0, .int .i64 0, .int .i64 0, .int .i64 0, .int .i64 0, .int .i64 0, .int .i64 0, .int .i64 0, .int .i64 0, .int .i64 0, .int .i64 0, .int .i64 0, .int .i64 0], .struct [(0, 9), (9, 1), (10, 1), (11, 1), (12, 1), (13, 1), (14, 1), (15, 1), (16, 1), (17, 1), (18, 1)]⟩))
      else (bif Nat.blt t 40 then
       (bif Nat.blt t 39 then
        some ⟨1, 8, false, [.nilFunc], .other⟩
        else some ⟨1, 8, false, [.nilFunc], .other⟩)
       else (bif Nat.blt t 41 then
        some ⟨1, 8, false, [.nilFunc], .other⟩
        else some ⟨1, 24, false, [.slice none 0 0], .slice 46⟩)))
     else (bif Nat.blt t 46 then
      (bif Nat.blt t 44 then
       (bif Nat.blt t 43 then
        some ⟨1, 8, false, [.nilFunc], .other⟩
        else some ⟨1, 24, false, [.slice none 0 0], .slice 47⟩)
       else (bif Nat.blt t 45 then
        some ⟨1, 8, false, [.nilFunc], .other⟩
        else some ⟨3, 24, true, [.int .i64 0, .int .i64 0, .int .i64 0], .struct [(0, 1), (1, 1), (2, 1)]⟩))
      else (bif Nat.blt t 48 then
       (bif Nat.blt t 47 then
        some ⟨3, 24, true, [.int .i64 0, .int .i64 0, .int .i64 0], .struct [(0, 1), (1, 1), (2, 1)]⟩
        else some ⟨3, 24, true, [.int .i64 0, .int .i64 0, .int .i64 0], .struct [(0, 1), (1, 1), (2, 1)]⟩)
       else (bif Nat.blt t 49 then
        some ⟨1, 8, false, [.nilFunc], .other⟩
        else (bif Nat.blt t 50 then
         some ⟨1, 24, false, [.slice none 0 0], .slice 62⟩
         else some ⟨1, 24, false, [.slice none 0 0], .slice 115⟩)))))
    else (bif Nat.blt t 59 then
     (bif Nat.blt t 55 then
      (bif Nat.blt t 53 then
       (bif Nat.blt t 52 then
        some ⟨1, 8, false, [.nilFunc], .other⟩
        else some ⟨1, 8, false, [.nilFunc], .other⟩)
       else (bif Nat.blt t 54 then
        some ⟨1, 24, false, [.slice none 0 0], .slice 64⟩
        else some ⟨1, 8, false, [.nilFunc], .other⟩))
      else (bif Nat.blt t 57 then
       (bif Nat.blt t 56 then
        some ⟨1, 8, false, [.nilFunc], .other⟩
        else some ⟨1, 8, false, [.nilFunc], .other⟩)
       else (bif Nat.blt t 58 then
        some ⟨1, 24, false, [.slice none 0 0], .slice 66⟩
        else some ⟨1, 8, false, [.nilFunc], .other⟩)))
     else (bif Nat.blt t 63 then
      (bif Nat.blt t 61 then
       (bif Nat.blt t 60 then
        some ⟨1, 8, false, [.nilFunc], .other⟩
        else some ⟨1, 8, false, [.int .u64 0], .int .u64⟩)
       else (bif Nat.blt t 62 then
        some ⟨4, 40, true, [.int .i64 0, .int .i64 0, .int .u64 0, .string ⟨#[]⟩], .struct [(0, 1), (1, 1), (2, 1), (3, 1)]⟩
        else some ⟨4, 40, true, [.int .i64 0, .int .i64 0, .int .u64 0, .string ⟨#[]⟩], .struct [(0, 1), (1, 1), (2, 1), (3, 1)]⟩))
      else (bif Nat.blt t 65 then
       (bif Nat.blt t 64 then
        some ⟨3, 32, true, [.int .i64 0, .int .i64 0, .string ⟨#[]⟩], .struct [(0, 1), (1, 1), (2, 1)]⟩
        else some ⟨3, 32, true, [.int .i64 0, .int .i64 0, .string ⟨#[]⟩], .struct [(0, 1), (1, 1), (2, 1)]⟩)
       else (bif Nat.blt t 66 then
        some ⟨3, 32, true, [.int .i64 0, .int .i64 0, .string ⟨#[]⟩], .struct [(0, 1), (1, 1), (2, 1)]⟩
        else (bif Nat.blt t 67 then
         some ⟨3, 32, true, [.int .i64 0, .int .i64 0, .string ⟨#[]⟩], .struct [(0, 1), (1, 1), (2, 1)]⟩
         else some ⟨1, 8, false, [.pointer none], .other⟩)))))))
  else (bif Nat.blt t 106 then
   (bif Nat.blt t 87 then
    (bif Nat.blt t 78 then
     (bif Nat.blt t 72 then
      (bif Nat.blt t 70 then
       (bif Nat.blt t 69 then
        some ⟨1, 8, false, [.nilFunc], .other⟩
        else some ⟨1, 8, false, [.int .i64 0], .int .i64⟩)
       else (bif Nat.blt t 71 then
        some ⟨1, 8, false, [.nilFunc], .other⟩
        else some ⟨1, 24, false, [.slice none 0 0], .slice 73⟩))
      else (bif Nat.blt t 75 then
       (bif Nat.blt t 73 then
        some ⟨4, 32, true, [.int .i64 0, .int .i64 0, .int .i64 0, .int .i64 0], .struct [(0, 1), (1, 1), (2, 1), (3, 1)]⟩
        else (bif Nat.beq t 73 then some ⟨4, 32, true, [.int .i64 0, .int .i64 0, .int .i64 0, .int .i64 0], .struct [(0, 1), (1, 1), (2, 1), (3, 1)]⟩ else none))
       else (bif Nat.blt t 76 then
        some ⟨1, 8, false, [.nilFunc], .other⟩
        else (bif Nat.beq t 76 then some ⟨1, 8, false, [.nilFunc], .other⟩ else none))))
     else (bif Nat.blt t 83 then
      (bif Nat.blt t 81 then
       (bif Nat.blt t 80 then
        (bif Nat.beq t 78 then some ⟨1, 8, false, [.nilFunc], .other⟩ else none)
        else some ⟨1, 8, false, [.nilFunc], .other⟩)
       else (bif Nat.blt t 82 then
        some ⟨1, 8, false, [.nilFunc], .other⟩
        else some ⟨1, 8, false, [.nilFunc], .other⟩))
      else (bif Nat.blt t 85 then
       (bif Nat.blt t 84 then
        some ⟨3, 32, true, [.int .u64 0, .int .i64 0, .string ⟨#[]⟩], .struct [(0, 1), (1, 1), (2, 1)]⟩
        else some ⟨3, 32, true, [.int .u64 0, .int .i64 0, .string ⟨#[]⟩], .struct [(0, 1), (1, 1), (2, 1)]⟩)
       else (bif Nat.blt t 86 then
        some ⟨1, 8, false, [.nilFunc], .other⟩
        else some ⟨3, 32, true, [.int .u64 0, .int .i64 0, .string ⟨#[]⟩], .struct [(0, 1), (1, 1), (2, 1)]⟩))))
    else (bif Nat.blt t 95 then
     (bif Nat.blt t 91 then
      (bif Nat.blt t 89 then
       (bif Nat.blt t 88 then
        some ⟨1, 8, false, [.nilFunc], .other⟩
        else some ⟨1, 8, false, [.nilFunc], .other⟩)
       else (bif Nat.blt t 90 then
        some ⟨1, 8, false, [.nilFunc], .other⟩
        else some ⟨1, 8, false, [.nilFunc], .other⟩))
      else (bif Nat.blt t 93 then
       (bif Nat.blt t 92 then
        some ⟨1, 8, false, [.nilFunc], .other⟩
        else some ⟨1, 24, false, [.slice none 0 0], .slice 149⟩)
       else (bif Nat.blt t 94 then
        some ⟨5, 64, true, [.int .i64 0, .string ⟨#[]⟩, .string ⟨#[]⟩, .string ⟨#[]⟩, .bool false], .struct [(0, 1), (1, 1), (2, 1), (3, 1), (4, 1)]⟩
        else some ⟨5, 64, true, [.int .i64 0, .string ⟨#[]⟩, .string ⟨#[]⟩, .string ⟨#[]⟩, .bool false], .struct [(0, 1), (1, 1), (2, 1), (3, 1), (4, 1)]⟩)))
     else (bif Nat.blt t 101 then
      (bif Nat.blt t 98 then
       (bif Nat.blt t 96 then
        some ⟨1, 8, false, [.nilFunc], .other⟩
        else (bif Nat.beq t 96 then some ⟨1, 8, false, [.pointer none], .other⟩ else none))
       else (bif Nat.blt t 99 then
        some ⟨1, 8, false, [.nilFunc], .other⟩
        else (bif Nat.beq t 99 then some ⟨1, 24, false, [.slice none 0 0], .slice 152⟩ else none)))
      else (bif Nat.blt t 103 then
       (bif Nat.blt t 102 then
        some ⟨1, 8, false, [.nilFunc], .other⟩
        else some ⟨1, 8, false, [.nilFunc], .other⟩)
       else (bif Nat.blt t 104 then
        some ⟨1, 8, false, [.nilFunc], .other⟩
        else (bif Nat.blt t 105 then
         some ⟨1, 8, false, [.nilFunc], .other⟩
         else some ⟨1, 8, false, [.nilFunc], .other⟩))))))
   else (bif Nat.blt t 125 then
    (bif Nat.blt t 114 then
     (bif Nat.blt t 110 then
      (bif Nat.blt t 108 then
       (bif Nat.blt t 107 then
        some ⟨1, 8, false, [.nilFunc], .other⟩
        else some ⟨1, 8, false, [.nilFunc], .other⟩)
       else (bif Nat.blt t 109 then
        some ⟨1, 8, false, [.nilFunc], .other⟩
        else some ⟨1, 8, false, [.nilFunc], .other⟩))
      else (bif Nat.blt t 112 then
       (bif Nat.blt t 111 then
        some ⟨3, 24, true, [.int .i64 0, .int .i64 0, .int .i64 0], .struct [(0, 1), (1, 1), (2, 1)]⟩
        else some ⟨3, 24, true, [.int .i64 0, .int .i64 0, .int .i64 0], .struct [(0, 1), (1, 1), (2, 1)]⟩)
       else (bif Nat.blt t 113 then
        some ⟨30, 240, true, [.int .i64 0, .int .i64 0, .int .i64 0, .int .i64 0, .int .i64 0, .int .i64 0, .int .i64 0, .int .i64 0, .int .i64 0, .int .i64 0, .int .i64 0, .int .i64 0, .int .i64 0, .int .i64 0, .int .i64 0, .int .i64 0, .int .i64 0, .int .i64 0, .int .i64 0, .int .i64 0, .int .i64 0, .int .i64 0, .int .i64 0, .int .i64 0, .int .i64 0, .int .i64 0, .int .i64 0, .int .i64 0, .int .i64 0, .int .i64 0], .arr 10 111⟩
        else some ⟨1, 8, false, [.nilFunc], .other⟩)))
     else (bif Nat.blt t 119 then
      (bif Nat.blt t 116 then
       (bif Nat.blt t 115 then
        some ⟨1, 8, false, [.nilFunc], .other⟩
        else some ⟨3, 32, true, [.int .i64 0, .int .i64 0, .string ⟨#[]⟩], .struct [(0, 1), (1, 1), (2, 1)]⟩)
       else (bif Nat.blt t 117 then
        some ⟨1, 8, false, [.nilFunc], .other⟩
        else (bif Nat.beq t 117 then some ⟨1, 8, false, [.nilFunc], .other⟩ else none)))
      else (bif Nat.blt t 121 then
       (bif Nat.blt t 120 then
        some ⟨1, 8, false, [.nilFunc], .other⟩
        else some ⟨1, 8, false, [.nilFunc], .other⟩)
       else (bif Nat.blt t 123 then
        (bif Nat.beq t 121 then some ⟨1, 8, false, [.nilFunc], .other⟩ else none)
        else (bif Nat.blt t 124 then
         some ⟨1, 8, false, [.nilFunc], .other⟩
         else some ⟨1, 8, false, [.nilFunc], .other⟩)))))
    else (bif Nat.blt t 133 then
     (bif Nat.blt t 129 then
      (bif Nat.blt t 127 then
       (bif Nat.blt t 126 then
        some ⟨1, 8, false, [.nilFunc], .other⟩
        else some ⟨1, 8, false, [.nilFunc], .other⟩)
       else (bif Nat.blt t 128 then
        some ⟨1, 8, false, [.nilFunc], .other⟩
        else some ⟨1, 8, false, [.map none], .other⟩))
      else (bif Nat.blt t 131 then
       (bif Nat.blt t 130 then
        some ⟨1, 24, false, [.slice none 0 0], .slice 132⟩
        else some ⟨2, 32, true, [.map none, .slice none 0 0], .struct [(0, 1), (1, 1)]⟩)
       else (bif Nat.blt t 132 then
        some ⟨2, 32, true, [.map none, .slice none 0 0], .struct [(0, 1), (1, 1)]⟩
        else some ⟨1, 8, false, [.pointer none], .other⟩)))
     else (bif Nat.blt t 137 then
      (bif Nat.blt t 135 then
       (bif Nat.blt t 134 then
        some ⟨6, 56, true, [.int .i64 0, .int .i64 0, .int .i64 0, .slice none 0 0, .bool false, .bool false], .struct [(0, 1), (1, 1), (2, 1), (3, 1), (4, 1), (5, 1)]⟩
        else some ⟨6, 56, true, [.int .i64 0, .int .i64 0, .int .i64 0, .slice none 0 0, .bool false, .bool false], .struct [(0, 1), (1, 1), (2, 1), (3, 1), (4, 1), (5, 1)]⟩)
       else (bif Nat.blt t 136 then
        some ⟨1, 8, false, [.nilFunc], .other⟩
        else some ⟨1, 8, false, [.nilFunc], .other⟩))
      else (bif Nat.blt t 139 then
       (bif Nat.blt t 138 then
        some ⟨1, 8, false, [.nilFunc], .other⟩
        else some ⟨1, 8, false, [.int .u64 0], .int .u64⟩)
       else (bif Nat.blt t 140 then
        some ⟨1, 24, false, [.slice none 0 0], .slice 5⟩
        else (bif Nat.blt t 141 then
         some ⟨1, 8, false, [.nilFunc], .other⟩
         else some ⟨1, 8, false, [.nilFunc], .other⟩))))))))
 else (bif Nat.blt t 217 then
  (bif Nat.blt t 179 then
   (bif Nat.blt t 160 then
    (bif Nat.blt t 150 then
     (bif Nat.blt t 146 then
      (bif Nat.blt t 144 then
       (bif Nat.blt t 143 then
        some ⟨1, 8, false, [.nilFunc], .other⟩
        else some ⟨1, 8, false, [.nilFunc], .other⟩)
       else (bif Nat.blt t 145 then
        some ⟨1, 8, false, [.nilFunc], .other⟩
        else some ⟨1, 8, false, [.nilFunc], .other⟩))
      else (bif Nat.blt t 148 then
       (bif Nat.blt t 147 then
        some ⟨1, 24, false, [.slice none 0 0], .slice 154⟩
        else some ⟨1, 24, false, [.slice none 0 0], .slice 94⟩)
       else (bif Nat.blt t 149 then
        some ⟨5, 80, true, [.int .i64 0, .string ⟨#[]⟩, .slice none 0 0, .slice none 0 0, .int .i64 0], .struct [(0, 1), (1, 1), (2, 1), (3, 1), (4, 1)]⟩
        else some ⟨5, 80, true, [.int .i64 0, .string ⟨#[]⟩, .slice none 0 0, .slice none 0 0, .int .i64 0], .struct [(0, 1), (1, 1), (2, 1), (3, 1), (4, 1)]⟩)))
     else (bif Nat.blt t 154 then
      (bif Nat.blt t 152 then
       (bif Nat.blt t 151 then
        some ⟨1, 8, false, [.nilFunc], .other⟩
        else some ⟨3, 48, true, [.int .i64 0, .string ⟨#[]⟩, .slice none 0 0], .struct [(0, 1), (1, 1), (2, 1)]⟩)
       else (bif Nat.blt t 153 then
        some ⟨3, 48, true, [.int .i64 0, .string ⟨#[]⟩, .slice none 0 0], .struct [(0, 1), (1, 1), (2, 1)]⟩
        else some ⟨5, 72, true, [.int .i64 0, .string ⟨#[]⟩, .int .i64 0, .string ⟨#[]⟩, .slice none 0 0], .struct [(0, 1), (1, 1), (2, 3)]⟩))
      else (bif Nat.blt t 156 then
       (bif Nat.blt t 155 then
        some ⟨5, 72, true, [.int .i64 0, .string ⟨#[]⟩, .int .i64 0, .string ⟨#[]⟩, .slice none 0 0], .struct [(0, 1), (1, 1), (2, 3)]⟩
        else some ⟨2, 16, true, [.int .i64 0, .int .i64 0], .struct [(0, 1), (1, 1)]⟩)
       else (bif Nat.blt t 158 then
        (bif Nat.beq t 156 then some ⟨2, 16, true, [.int .i64 0, .int .i64 0], .struct [(0, 1), (1, 1)]⟩ else none)
        else (bif Nat.beq t 158 then some ⟨1, 8, false, [.nilFunc], .other⟩ else none)))))
    else (bif Nat.blt t 168 then
     (bif Nat.blt t 164 then
      (bif Nat.blt t 162 then
       (bif Nat.blt t 161 then
        some ⟨1, 8, false, [.nilFunc], .other⟩
        else some ⟨1, 8, false, [.nilFunc], .other⟩)
       else (bif Nat.blt t 163 then
        some ⟨1, 8, false, [.nilFunc], .other⟩
        else some ⟨1, 8, false, [.nilFunc], .other⟩))
      else (bif Nat.blt t 166 then
       (bif Nat.blt t 165 then
        some ⟨1, 8, false, [.nilFunc], .other⟩
        else some ⟨1, 8, false, [.nilFunc], .other⟩)
       else (bif Nat.blt t 167 then
        some ⟨1, 8, false, [.nilFunc], .other⟩
        else some ⟨1, 8, false, [.nilFunc], .other⟩)))
     else (bif Nat.blt t 172 then
      (bif Nat.blt t 170 then
       (bif Nat.blt t 169 then
        some ⟨1, 8, false, [.nilFunc], .other⟩
        else some ⟨1, 8, false, [.pointer none], .other⟩)
       else (bif Nat.blt t 171 then
        some ⟨2, 32, true, [.pointer none, .slice none 0 0], .struct [(0, 1), (1, 1)]⟩
        else some ⟨2, 32, true, [.pointer none, .slice none 0 0], .struct [(0, 1), (1, 1)]⟩))
      else (bif Nat.blt t 175 then
       (bif Nat.blt t 173 then
        some ⟨1, 16, false, [.nilIface], .other⟩
        else (bif Nat.beq t 173 then some ⟨1, 16, false, [.nilIface], .other⟩ else none))
       else (bif Nat.blt t 176 then
        some ⟨1, 8, false, [.nilFunc], .other⟩
        else (bif Nat.blt t 178 then
         (bif Nat.beq t 176 then some ⟨1, 8, false, [.nilFunc], .other⟩ else none)
         else some ⟨1, 8, false, [.nilFunc], .other⟩))))))
   else (bif Nat.blt t 197 then
    (bif Nat.blt t 188 then
     (bif Nat.blt t 184 then
      (bif Nat.blt t 182 then
       (bif Nat.blt t 181 then
        (bif Nat.beq t 179 then some ⟨1, 8, false, [.nilFunc], .other⟩ else none)
        else some ⟨1, 8, false, [.nilFunc], .other⟩)
       else (bif Nat.blt t 183 then
        some ⟨1, 8, false, [.nilFunc], .other⟩
        else some ⟨1, 8, false, [.nilFunc], .other⟩))
      else (bif Nat.blt t 186 then
       (bif Nat.blt t 185 then
        some ⟨1, 24, false, [.slice none 0 0], .slice 9⟩
        else some ⟨1, 8, false, [.nilFunc], .other⟩)
       else (bif Nat.blt t 187 then
        some ⟨4, 4, true, [.int .u8 0, .int .u8 0, .int .u8 0, .int .u8 0], .arr 4 5⟩
        else some ⟨1, 8, false, [.nilFunc], .other⟩)))
     else (bif Nat.blt t 192 then
      (bif Nat.blt t 190 then
       (bif Nat.blt t 189 then
        some ⟨1, 8, false, [.nilFunc], .other⟩
        else some ⟨0, 0, true, [], .struct []⟩)
       else (bif Nat.blt t 191 then
        some ⟨0, 0, true, [], .struct []⟩
        else some ⟨0, 0, true, [], .struct []⟩))
      else (bif Nat.blt t 194 then
       (bif Nat.blt t 193 then
        some ⟨1, 4, false, [.int .u32 0], .int .u32⟩
        else some ⟨1, 4, true, [.int .u32 0], .struct [(0, 0), (0, 1)]⟩)
       else (bif Nat.blt t 195 then
        some ⟨1, 4, true, [.int .u32 0], .struct [(0, 0), (0, 1)]⟩
        else (bif Nat.blt t 196 then
         some ⟨2, 8, true, [.int .i32 0, .int .u32 0], .struct [(0, 1), (1, 1)]⟩
         else some ⟨2, 8, true, [.int .i32 0, .int .u32 0], .struct [(0, 1), (1, 1)]⟩)))))
    else (bif Nat.blt t 205 then
     (bif Nat.blt t 201 then
      (bif Nat.blt t 199 then
       (bif Nat.blt t 198 then
        some ⟨2, 8, true, [.int .i32 0, .int .u32 0], .struct [(0, 0), (0, 2)]⟩
        else some ⟨2, 8, true, [.int .i32 0, .int .u32 0], .struct [(0, 0), (0, 2)]⟩)
       else (bif Nat.blt t 200 then
        some ⟨3, 12, true, [.int .u32 0, .int .i32 0, .int .u32 0], .struct [(0, 0), (0, 1), (1, 2)]⟩
        else some ⟨3, 12, true, [.int .u32 0, .int .i32 0, .int .u32 0], .struct [(0, 0), (0, 1), (1, 2)]⟩))
      else (bif Nat.blt t 203 then
       (bif Nat.blt t 202 then
        some ⟨1, 8, false, [.pointer none], .other⟩
        else some ⟨1, 8, false, [.map none], .other⟩)
       else (bif Nat.blt t 204 then
        some ⟨6, 56, true, [.slice none 0 0, .int .u32 0, .int .i32 0, .int .u32 0, .pointer none, .map none], .struct [(0, 1), (1, 3), (4, 1), (5, 1)]⟩
        else some ⟨6, 56, true, [.slice none 0 0, .int .u32 0, .int .i32 0, .int .u32 0, .pointer none, .map none], .struct [(0, 1), (1, 3), (4, 1), (5, 1)]⟩)))
     else (bif Nat.blt t 210 then
      (bif Nat.blt t 208 then
       (bif Nat.blt t 206 then
        some ⟨1, 8, false, [.nilFunc], .other⟩
        else (bif Nat.beq t 206 then some ⟨1, 8, false, [.nilFunc], .other⟩ else none))
       else (bif Nat.blt t 209 then
        some ⟨1, 8, false, [.nilFunc], .other⟩
        else some ⟨1, 8, false, [.nilFunc], .other⟩))
      else (bif Nat.blt t 213 then
       (bif Nat.blt t 212 then
        (bif Nat.beq t 210 then some ⟨1, 8, false, [.pointer none], .other⟩ else none)
        else some ⟨1, 8, false, [.nilFunc], .other⟩)
       else (bif Nat.blt t 214 then
        some ⟨1, 8, false, [.nilFunc], .other⟩
        else (bif Nat.blt t 215 then
         some ⟨1, 8, false, [.nilFunc], .other⟩
         else (bif Nat.beq t 215 then some ⟨1, 8, false, [.nilFunc], .other⟩ else none))))))))
  else (bif Nat.blt t 252 then
   (bif Nat.blt t 235 then
    (bif Nat.blt t 226 then
     (bif Nat.blt t 222 then
      (bif Nat.blt t 220 then
       (bif Nat.blt t 219 then
        (bif Nat.beq t 217 then some ⟨1, 8, false, [.nilFunc], .other⟩ else none)
        else some ⟨1, 8, false, [.nilFunc], .other⟩)
       else (bif Nat.blt t 221 then
        some ⟨1, 8, false, [.pointer none], .other⟩
        else some ⟨1, 8, false, [.nilFunc], .other⟩))
      else (bif Nat.blt t 224 then
       (bif Nat.blt t 223 then
        some ⟨2, 32, true, [.slice none 0 0, .pointer none], .struct [(0, 1), (1, 1)]⟩
        else some ⟨2, 32, true, [.slice none 0 0, .pointer none], .struct [(0, 1), (1, 1)]⟩)
       else (bif Nat.blt t 225 then
        some ⟨1, 8, false, [.nilFunc], .other⟩
        else some ⟨1, 24, false, [.slice none 0 0], .slice 4⟩)))
     else (bif Nat.blt t 230 then
      (bif Nat.blt t 228 then
       (bif Nat.blt t 227 then
        some ⟨1, 8, false, [.nilFunc], .other⟩
        else some ⟨1, 8, false, [.nilFunc], .other⟩)
       else (bif Nat.blt t 229 then
        some ⟨1, 8, false, [.nilFunc], .other⟩
        else some ⟨1, 8, false, [.nilFunc], .other⟩))
      else (bif Nat.blt t 232 then
       (bif Nat.blt t 231 then
        some ⟨1, 8, false, [.nilFunc], .other⟩
        else some ⟨1, 8, false, [.nilFunc], .other⟩)
       else (bif Nat.blt t 234 then
        (bif Nat.beq t 232 then some ⟨1, 8, false, [.nilFunc], .other⟩ else none)
        else some ⟨1, 8, false, [.nilFunc], .other⟩))))
    else (bif Nat.blt t 243 then
     (bif Nat.blt t 239 then
      (bif Nat.blt t 237 then
       (bif Nat.blt t 236 then
        some ⟨1, 8, false, [.map none], .other⟩
        else some ⟨2, 32, true, [.map none, .slice none 0 0], .struct [(0, 1), (1, 1)]⟩)
       else (bif Nat.blt t 238 then
        some ⟨2, 32, true, [.map none, .slice none 0 0], .struct [(0, 1), (1, 1)]⟩
        else some ⟨1, 8, false, [.nilFunc], .other⟩))
      else (bif Nat.blt t 241 then
       (bif Nat.blt t 240 then
        some ⟨1, 8, false, [.pointer none], .other⟩
        else some ⟨1, 8, false, [.nilFunc], .other⟩)
       else (bif Nat.blt t 242 then
        some ⟨1, 8, false, [.nilFunc], .other⟩
        else some ⟨1, 8, false, [.nilFunc], .other⟩)))
     else (bif Nat.blt t 247 then
      (bif Nat.blt t 245 then
       (bif Nat.blt t 244 then
        some ⟨1, 8, false, [.nilFunc], .other⟩
        else some ⟨1, 8, false, [.pointer none], .other⟩)
       else (bif Nat.blt t 246 then
        some ⟨1, 8, false, [.map none], .other⟩
        else some ⟨2, 16, true, [.map none, .map none], .struct [(0, 1), (1, 1)]⟩))
      else (bif Nat.blt t 249 then
       (bif Nat.blt t 248 then
        some ⟨2, 16, true, [.map none, .map none], .struct [(0, 1), (1, 1)]⟩
        else some ⟨1, 8, false, [.nilFunc], .other⟩)
       else (bif Nat.blt t 250 then
        some ⟨1, 8, false, [.nilFunc], .other⟩
        else (bif Nat.blt t 251 then
         some ⟨1, 8, false, [.nilFunc], .other⟩
         else some ⟨1, 8, false, [.nilFunc], .other⟩))))))
   else (bif Nat.blt t 269 then
    (bif Nat.blt t 260 then
     (bif Nat.blt t 256 then
      (bif Nat.blt t 254 then
       (bif Nat.blt t 253 then
        some ⟨1, 8, false, [.nilFunc], .other⟩
        else some ⟨1, 8, false, [.pointer none], .other⟩)
       else (bif Nat.blt t 255 then
        some ⟨1, 8, false, [.nilFunc], .other⟩
        else some ⟨1, 8, false, [.nilFunc], .other⟩))
      else (bif Nat.blt t 258 then
       (bif Nat.blt t 257 then
        some ⟨1, 8, false, [.nilFunc], .other⟩
        else some ⟨1, 8, false, [.pointer none], .other⟩)
       else (bif Nat.blt t 259 then
        some ⟨1, 8, false, [.nilFunc], .other⟩
        else some ⟨1, 8, false, [.pointer none], .other⟩)))
     else (bif Nat.blt t 264 then
      (bif Nat.blt t 262 then
       (bif Nat.blt t 261 then
        some ⟨1, 8, false, [.nilFunc], .other⟩
        else some ⟨1, 8, false, [.nilFunc], .other⟩)
       else (bif Nat.blt t 263 then
        some ⟨1, 8, false, [.nilFunc], .other⟩
        else some ⟨1, 8, false, [.pointer none], .other⟩))
      else (bif Nat.blt t 266 then
       (bif Nat.blt t 265 then
        some ⟨1, 8, false, [.nilFunc], .other⟩
        else some ⟨1, 8, false, [.nilFunc], .other⟩)
       else (bif Nat.blt t 267 then
        some ⟨1, 8, false, [.pointer none], .other⟩
        else (bif Nat.blt t 268 then
         some ⟨1, 8, false, [.nilFunc], .other⟩
         else some ⟨1, 8, false, [.pointer none], .other⟩)))))
    else (bif Nat.blt t 277 then
     (bif Nat.blt t 273 then
      (bif Nat.blt t 271 then
       (bif Nat.blt t 270 then
        some ⟨1, 8, false, [.nilFunc], .other⟩
        else some ⟨1, 8, false, [.nilFunc], .other⟩)
       else (bif Nat.blt t 272 then
        some ⟨1, 8, false, [.nilFunc], .other⟩
        else some ⟨1, 8, false, [.nilFunc], .other⟩))
      else (bif Nat.blt t 275 then
       (bif Nat.blt t 274 then
        some ⟨1, 8, false, [.nilFunc], .other⟩
        else some ⟨4, 40, true, [.pointer none, .pointer none, .pointer none, .string ⟨#[]⟩], .struct [(0, 1), (1, 1), (2, 1), (3, 1)]⟩)
       else (bif Nat.blt t 276 then
        some ⟨4, 40, true, [.pointer none, .pointer none, .pointer none, .string ⟨#[]⟩], .struct [(0, 1), (1, 1), (2, 1), (3, 1)]⟩
        else some ⟨0, 0, true, [], .arr 0 16⟩)))
     else (bif Nat.blt t 281 then
      (bif Nat.blt t 279 then
       (bif Nat.blt t 278 then
        some ⟨0, 0, true, [], .struct [(0, 0)]⟩
        else some ⟨0, 0, true, [], .struct [(0, 0)]⟩)
       else (bif Nat.blt t 280 then
        some ⟨1, 1, false, [.int .u8 0], .int .u8⟩
        else some ⟨1, 1, false, [.int .u8 0], .int .u8⟩))
      else (bif Nat.blt t 283 then
       (bif Nat.blt t 282 then
        some ⟨1, 8, false, [.nilFunc], .other⟩
        else some ⟨1, 4, false, [.int .i32 0], .int .i32⟩)
       else (bif Nat.blt t 284 then
        some ⟨1, 4, false, [.int .i32 0], .int .i32⟩
        else (bif Nat.blt t 285 then
         some ⟨11, 48, true, [.int .u64 0, .int .u64 0, .int .u32 0, .int .u8 0, .int .u8 0, .int .u8 0, .int .u8 0, .nilFunc, .pointer none, .int .i32 0, .int .i32 0], .struct [(0, 1), (1, 1), (2, 1), (3, 1), (4, 1), (5, 1), (6, 1), (7, 1), (8, 1), (9, 1), (10, 1)]⟩
         else some ⟨11, 48, true, [.int .u64 0, .int .u64 0, .int .u32 0, .int .u8 0, .int .u8 0, .int .u8 0, .int .u8 0, .nilFunc, .pointer none, .int .i32 0, .int .i32 0], .struct [(0, 1), (1, 1), (2, 1), (3, 1), (4, 1), (5, 1), (6, 1), (7, 1), (8, 1), (9, 1), (10, 1)]⟩)))))))))
def Try.tab : Tab := mkTab 286 Try.tabF
theorem Try.tabOK : TabOK Try.prog Try.tab := Go.Sy.tabOK (by kernel_rfl)

end Go.Proofs
