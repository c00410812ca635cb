/- The table of the types of this seat, as the walk wants it. -/
import Derived.Test.YtgmdpfoccnalnaaGreatChecked
import Derived.KernelRfl
import Derived.Test.YtgmdpfoccnalnaaGreatE5
import Derived.Test.YtgmdpfoccnalnaaGreatE4
set_option linter.unusedSimpArgs false
set_option linter.unusedVariables false
namespace Go.Proofs
open Go.Sy
def Tryz.tabF : Tab := fun t =>
 (bif Nat.blt t 220 then
 (bif Nat.blt t 108 then
  (bif Nat.blt t 52 then
   (bif Nat.blt t 26 then
    (bif Nat.blt t 13 then
     (bif Nat.blt t 7 then
      (bif Nat.blt t 4 then
       (bif Nat.blt t 2 then
        (bif Nat.beq t 1 then some ⟨1, 8, false, [.nilFunc], .other⟩ else none)
        else (bif Nat.blt t 3 then
         some ⟨1, 8, false, [.int .i64 0], .int .i64⟩
         else some ⟨1, 8, false, [.int .i64 0], .int .i64⟩))
       else (bif Nat.blt t 5 then
        some ⟨1, 1, false, [.bool false], .bool⟩
        else (bif Nat.blt t 6 then
         some ⟨1, 1, false, [.int .u8 0], .int .u8⟩
         else some ⟨1, 1, false, [.int .u8 0], .int .u8⟩)))
      else (bif Nat.blt t 10 then
       (bif Nat.blt t 8 then
        some ⟨4, 24, true, [.int .i64 0, .int .i64 0, .bool false, .int .u8 0], .struct [(0, 1), (1, 1), (2, 1), (3, 1)]⟩
        else (bif Nat.blt t 9 then
         some ⟨4, 24, true, [.int .i64 0, .int .i64 0, .bool false, .int .u8 0], .struct [(0, 1), (1, 1), (2, 1), (3, 1)]⟩
         else some ⟨1, 16, false, [.string ⟨#[]⟩], .str⟩))
       else (bif Nat.blt t 11 then
        some ⟨1, 16, false, [.string ⟨#[]⟩], .str⟩
        else (bif Nat.blt t 12 then
         some ⟨1, 16, false, [.string ⟨#[]⟩], .str⟩
         else some ⟨1, 8, false, [.int .u64 0], .int .u64⟩))))
     else (bif Nat.blt t 19 then
      (bif Nat.blt t 16 then
       (bif Nat.blt t 14 then
        some ⟨2, 24, true, [.string ⟨#[]⟩, .int .u64 0], .struct [(0, 1), (1, 1)]⟩
        else (bif Nat.blt t 15 then
         some ⟨2, 24, true, [.string ⟨#[]⟩, .int .u64 0], .struct [(0, 1), (1, 1)]⟩
         else some ⟨1, 8, false, [.pointer none], .other⟩))
       else (bif Nat.blt t 17 then
        some ⟨1, 8, false, [.pointer none], .other⟩
        else (bif Nat.blt t 18 then
         some ⟨1, 8, false, [.pointer none], .other⟩
         else some ⟨1, 8, true, [.pointer none], .struct [(0, 1)]⟩)))
      else (bif Nat.blt t 22 then
       (bif Nat.blt t 20 then
        some ⟨1, 8, true, [.pointer none], .struct [(0, 1)]⟩
        else (bif Nat.blt t 21 then
         some ⟨1, 16, false, [.nilIface], .other⟩
         else some ⟨1, 4, false, [.int .i32 0], .int .i32⟩))
       else (bif Nat.blt t 24 then
        (bif Nat.blt t 23 then
         some ⟨1, 24, false, [.slice none 0 0], .slice 30⟩
         else some ⟨1, 24, false, [.slice none 0 0], .slice 39⟩)
        else (bif Nat.blt t 25 then
         some ⟨1, 8, false, [.nilFunc], .other⟩
         else some ⟨1, 24, false, [.slice none 0 0], .slice 34⟩)))))
    else (bif Nat.blt t 38 then
     (bif Nat.blt t 32 then
      (bif Nat.blt t 29 then
       (bif Nat.blt t 27 then
        some ⟨1, 8, false, [.int .i64 0], .int .i64⟩
        else (bif Nat.blt t 28 then
         some ⟨6, 64, true, [.int .i64 0, .int .i64 0, .int .i64 0, .string ⟨#[]⟩, .int .i64 0, .string ⟨#[]⟩], .struct [(0, 1), (1, 1), (2, 1), (3, 1), (4, 1), (5, 1)]⟩
         else some ⟨6, 64, true, [.int .i64 0, .int .i64 0, .int .i64 0, .string ⟨#[]⟩, .int .i64 0, .string ⟨#[]⟩], .struct [(0, 1), (1, 1), (2, 1), (3, 1), (4, 1), (5, 1)]⟩))
       else (bif Nat.blt t 30 then
        some ⟨8, 80, true, [.int .i64 0, .int .i64 0, .int .i64 0, .int .i64 0, .int .i64 0, .string ⟨#[]⟩, .int .i64 0, .string ⟨#[]⟩], .struct [(0, 1), (1, 1), (2, 6)]⟩
        else (bif Nat.blt t 31 then
         some ⟨8, 80, true, [.int .i64 0, .int .i64 0, .int .i64 0, .int .i64 0, .int .i64 0, .string ⟨#[]⟩, .int .i64 0, .string ⟨#[]⟩], .struct [(0, 1), (1, 1), (2, 6)]⟩
         else some ⟨6, 64, true, [.int .i64 0, .int .i64 0, .int .i64 0, .string ⟨#[]⟩, .int .i64 0, .string ⟨#[]⟩], .struct [(0, 1), (1, 1), (2, 1), (3, 1), (4, 1), (5, 1)]⟩)))
      else (bif Nat.blt t 35 then
       (bif Nat.blt t 33 then
        some ⟨1, 8, false, [.nilFunc], .other⟩
        else (bif Nat.blt t 34 then
         some ⟨8, 80, true, [.int .i64 0, .int .i64 0, .int .i64 0, .int .i64 0, .int .i64 0, .string ⟨#[]⟩, .int .i64 0, .string ⟨#[]⟩], .struct [(0, 1), (1, 1), (2, 6)]⟩
         else some ⟨8, 80, true, [.int .i64 0, .int .i64 0, .int .i64 0, .int .i64 0, .int .i64 0, .string ⟨#[]⟩, .int .i64 0, .string ⟨#[]⟩], .struct [(0, 1), (1, 1), (2, 6)]⟩))
       else (bif Nat.blt t 36 then
        some ⟨1, 24, false, [.slice none 0 0], .slice 37⟩
        else (bif Nat.blt t 37 then
         some ⟨7, 48, true, [.int .i64 0, .int .i64 0, .int .i64 0, .int .i64 0, .int .i64 0, .bool false, .bool false], .struct [(0, 1), (1, 1), (2, 1), (3, 1), (4, 1), (5, 1), (6, 1)]⟩
         else some ⟨7, 48, true, [.int .i64 0, .int .i64 0, .int .i64 0, .int .i64 0, .int .i64 0, .bool false, .bool false], .struct [(0, 1), (1, 1), (2, 1), (3, 1), (4, 1), (5, 1), (6, 1)]⟩))))
     else (bif Nat.blt t 44 then
      (bif Nat.blt t 41 then
       (bif Nat.blt t 39 then
        some ⟨1, 8, false, [.nilFunc], .other⟩
        else (bif Nat.blt t 40 then
         some ⟨7, 48, true, [.int .i64 0, .int .i64 0, .int .i64 0, .int .i64 0, .int .i64 0, .bool false, .bool false], .struct [(0, 1), (1, 1), (2, 1), (3, 1), (4, 1), (5, 1), (6, 1)]⟩
         else some ⟨1, 8, false, [.nilFunc], .other⟩))
       else (bif Nat.blt t 42 then
        some ⟨1, 8, false, [.nilFunc], .other⟩
        else (bif Nat.blt t 43 then
         some ⟨1, 8, false, [.nilFunc], .other⟩
         else some ⟨1, 8, false, [.nilFunc], .other⟩)))
      else (bif Nat.blt t 47 then
       (bif Nat.blt t 45 then
        some ⟨1, 24, false, [.slice none 0 0], .slice 3⟩
        else (bif Nat.blt t 46 then
         some ⟨1, 8, false, [.nilFunc], .other⟩
         else some ⟨1, 8, false, [.nilFunc], .other⟩))
       else (bif Nat.blt t 49 then
        (bif Nat.blt t 48 then
         some ⟨1, 8, false, [.nilFunc], .other⟩
         else some ⟨1, 8, false, [.pointer none], .other⟩)
        else (bif Nat.blt t 50 then
         some ⟨2, 16, true, [.int .i64 0, .int .i64 0], .struct [(0, 1), (1, 1)]⟩
         else (bif Nat.beq t 50 then some ⟨2, 16, true, [.int .i64 0, .int .i64 0], .struct [(0, 1), (1, 1)]⟩ else none)))))))
   else (bif Nat.blt t 79 then
    (bif Nat.blt t 64 then
     (bif Nat.blt t 58 then
      (bif Nat.blt t 55 then
       (bif Nat.blt t 53 then
        some ⟨1, 8, false, [.nilFunc], .other⟩
        else (bif Nat.blt t 54 then
         some ⟨1, 24, false, [.slice none 0 0], .slice 60⟩
         else some ⟨1, 8, false, [.nilFunc], .other⟩))
       else (bif Nat.blt t 56 then
        some ⟨1, 8, false, [.nilFunc], .other⟩
        else (bif Nat.blt t 57 then
         some ⟨1, 24, false, [.slice none 0 0], .slice 65⟩
         else some ⟨1, 8, false, [.nilFunc], .other⟩)))
      else (bif Nat.blt t 61 then
       (bif Nat.blt t 59 then
        some ⟨1, 24, false, [.slice none 0 0], .slice 92⟩
        else (bif Nat.blt t 60 then
         some ⟨5, 80, true, [.int .i64 0, .string ⟨#[]⟩, .slice none 0 0, .slice none 0 0, .int .i64 0], .struct [(0, 1), (1, 1), (2, 1), (3, 1), (4, 1)]⟩
         else some ⟨5, 80, true, [.int .i64 0, .string ⟨#[]⟩, .slice none 0 0, .slice none 0 0, .int .i64 0], .struct [(0, 1), (1, 1), (2, 1), (3, 1), (4, 1)]⟩))
       else (bif Nat.blt t 62 then
        some ⟨1, 24, false, [.slice none 0 0], .slice 63⟩
        else (bif Nat.blt t 63 then
         some ⟨3, 48, true, [.int .i64 0, .string ⟨#[]⟩, .slice none 0 0], .struct [(0, 1), (1, 1), (2, 1)]⟩
         else some ⟨3, 48, true, [.int .i64 0, .string ⟨#[]⟩, .slice none 0 0], .struct [(0, 1), (1, 1), (2, 1)]⟩))))
     else (bif Nat.blt t 70 then
      (bif Nat.blt t 67 then
       (bif Nat.blt t 65 then
        some ⟨5, 72, true, [.int .i64 0, .string ⟨#[]⟩, .int .i64 0, .string ⟨#[]⟩, .slice none 0 0], .struct [(0, 1), (1, 1), (2, 3)]⟩
        else (bif Nat.blt t 66 then
         some ⟨5, 72, true, [.int .i64 0, .string ⟨#[]⟩, .int .i64 0, .string ⟨#[]⟩, .slice none 0 0], .struct [(0, 1), (1, 1), (2, 3)]⟩
         else some ⟨1, 8, false, [.nilFunc], .other⟩))
       else (bif Nat.blt t 68 then
        some ⟨1, 8, false, [.nilFunc], .other⟩
        else (bif Nat.blt t 69 then
         some ⟨1, 24, false, [.slice none 0 0], .slice 70⟩
         else some ⟨5, 80, true, [.int .i64 0, .int .i64 0, .string ⟨#[]⟩, .slice none 0 0, .slice none 0 0], .struct [(0, 1), (1, 1), (2, 1), (3, 1), (4, 1)]⟩)))
      else (bif Nat.blt t 74 then
       (bif Nat.blt t 71 then
        some ⟨5, 80, true, [.int .i64 0, .int .i64 0, .string ⟨#[]⟩, .slice none 0 0, .slice none 0 0], .struct [(0, 1), (1, 1), (2, 1), (3, 1), (4, 1)]⟩
        else (bif Nat.blt t 72 then
         some ⟨1, 8, false, [.nilFunc], .other⟩
         else (bif Nat.beq t 72 then some ⟨1, 8, false, [.nilFunc], .other⟩ else none)))
       else (bif Nat.blt t 77 then
        (bif Nat.blt t 75 then
         some ⟨1, 8, false, [.nilFunc], .other⟩
         else (bif Nat.beq t 75 then some ⟨1, 8, false, [.nilFunc], .other⟩ else none))
        else (bif Nat.blt t 78 then
         some ⟨1, 8, false, [.nilFunc], .other⟩
         else some ⟨1, 8, false, [.nilFunc], .other⟩)))))
    else (bif Nat.blt t 94 then
     (bif Nat.blt t 86 then
      (bif Nat.blt t 83 then
       (bif Nat.blt t 80 then
        some ⟨1, 8, false, [.nilFunc], .other⟩
        else (bif Nat.blt t 81 then
         some ⟨6, 96, true, [.string ⟨#[]⟩, .int .i64 0, .int .i64 0, .string ⟨#[]⟩, .slice none 0 0, .slice none 0 0], .struct [(0, 1), (1, 5)]⟩
         else (bif Nat.beq t 81 then some ⟨6, 96, true, [.string ⟨#[]⟩, .int .i64 0, .int .i64 0, .string ⟨#[]⟩, .slice none 0 0, .slice none 0 0], .struct [(0, 1), (1, 5)]⟩ else none)))
       else (bif Nat.blt t 84 then
        some ⟨1, 8, false, [.nilFunc], .other⟩
        else (bif Nat.blt t 85 then
         some ⟨1, 8, false, [.nilFunc], .other⟩
         else some ⟨1, 8, false, [.nilFunc], .other⟩)))
      else (bif Nat.blt t 89 then
       (bif Nat.blt t 87 then
        some ⟨1, 8, false, [.nilFunc], .other⟩
        else (bif Nat.blt t 88 then
         some ⟨3, 40, true, [.string ⟨#[]⟩, .string ⟨#[]⟩, .int .i64 0], .struct [(0, 1), (1, 1), (2, 1)]⟩
         else some ⟨3, 40, true, [.string ⟨#[]⟩, .string ⟨#[]⟩, .int .i64 0], .struct [(0, 1), (1, 1), (2, 1)]⟩))
       else (bif Nat.blt t 91 then
        (bif Nat.blt t 90 then
         some ⟨3, 32, true, [.string ⟨#[]⟩, .bool false, .int .i64 0], .struct [(0, 1), (1, 1), (2, 1)]⟩
         else some ⟨3, 32, true, [.string ⟨#[]⟩, .bool false, .int .i64 0], .struct [(0, 1), (1, 1), (2, 1)]⟩)
        else (bif Nat.blt t 92 then
         some ⟨5, 64, true, [.int .i64 0, .string ⟨#[]⟩, .string ⟨#[]⟩, .string ⟨#[]⟩, .bool false], .struct [(0, 1), (1, 1), (2, 1), (3, 1), (4, 1)]⟩
         else (bif Nat.beq t 92 then some ⟨5, 64, true, [.int .i64 0, .string ⟨#[]⟩, .string ⟨#[]⟩, .string ⟨#[]⟩, .bool false], .struct [(0, 1), (1, 1), (2, 1), (3, 1), (4, 1)]⟩ else none)))))
     else (bif Nat.blt t 100 then
      (bif Nat.blt t 97 then
       (bif Nat.blt t 95 then
        some ⟨1, 8, false, [.nilFunc], .other⟩
        else (bif Nat.blt t 96 then
         some ⟨1, 8, false, [.nilFunc], .other⟩
         else some ⟨1, 8, false, [.nilFunc], .other⟩))
       else (bif Nat.blt t 98 then
        some ⟨3, 32, true, [.string ⟨#[]⟩, .bool false, .int .i64 0], .struct [(0, 1), (1, 1), (2, 1)]⟩
        else (bif Nat.blt t 99 then
         some ⟨1, 8, false, [.nilFunc], .other⟩
         else some ⟨1, 8, false, [.nilFunc], .other⟩)))
      else (bif Nat.blt t 103 then
       (bif Nat.blt t 101 then
        some ⟨1, 8, false, [.nilFunc], .other⟩
        else (bif Nat.blt t 102 then
         some ⟨1, 8, false, [.nilFunc], .other⟩
         else some ⟨1, 8, false, [.nilFunc], .other⟩))
       else (bif Nat.blt t 106 then
        (bif Nat.blt t 105 then
         (bif Nat.beq t 103 then some ⟨1, 8, false, [.nilFunc], .other⟩ else none)
         else some ⟨1, 8, false, [.nilFunc], .other⟩)
        else (bif Nat.blt t 107 then
         some ⟨1, 8, false, [.nilFunc], .other⟩
         else some ⟨1, 8, false, [.nilFunc], .other⟩)))))))
  else (bif Nat.blt t 162 then
   (bif Nat.blt t 134 then
    (bif Nat.blt t 120 then
     (bif Nat.blt t 114 then
      (bif Nat.blt t 111 then
       (bif Nat.blt t 109 then
        some ⟨10, 160, true, [.int .i64 0, .int .i64 0, .string ⟨#[]⟩, .slice none 0 0, .slice none 0 0, .int .i64 0, .int .i64 0, .string ⟨#[]⟩, .slice none 0 0, .slice none 0 0], .arr 2 70⟩
        else (bif Nat.blt t 110 then
         some ⟨1, 8, false, [.nilFunc], .other⟩
         else some ⟨1, 8, false, [.nilFunc], .other⟩))
       else (bif Nat.blt t 112 then
        some ⟨1, 8, false, [.nilFunc], .other⟩
        else (bif Nat.blt t 113 then
         some ⟨1, 8, false, [.nilFunc], .other⟩
         else some ⟨1, 8, false, [.map none], .other⟩)))
      else (bif Nat.blt t 117 then
       (bif Nat.blt t 115 then
        some ⟨1, 8, true, [.map none], .struct [(0, 1)]⟩
        else (bif Nat.blt t 116 then
         some ⟨1, 8, true, [.map none], .struct [(0, 1)]⟩
         else some ⟨4, 80, true, [.map none, .slice none 0 0, .slice none 0 0, .slice none 0 0], .struct [(0, 1), (1, 1), (2, 1), (3, 1)]⟩))
       else (bif Nat.blt t 118 then
        some ⟨4, 80, true, [.map none, .slice none 0 0, .slice none 0 0, .slice none 0 0], .struct [(0, 1), (1, 1), (2, 1), (3, 1)]⟩
        else (bif Nat.blt t 119 then
         some ⟨1, 8, false, [.int .u64 0], .int .u64⟩
         else some ⟨9, 72, true, [.int .i64 0, .int .i64 0, .int .i64 0, .int .i64 0, .int .i64 0, .int .i64 0, .int .i64 0, .int .i64 0, .int .i64 0], .struct [(0, 1), (1, 1), (2, 1), (3, 1), (4, 1), (5, 1), (6, 1), (7, 1), (8, 1)]⟩))))
     else (bif Nat.blt t 127 then
      (bif Nat.blt t 124 then
       (bif Nat.blt t 121 then
        some ⟨9, 72, true, [.int .i64 0, .int .i64 0, .int .i64 0, .int .i64 0, .int .i64 0, .int .i64 0, .int .i64 0, .int .i64 0, .int .i64 0], .struct [(0, 1), (1, 1), (2, 1), (3, 1), (4, 1), (5, 1), (6, 1), (7, 1), (8, 1)]⟩
        else (bif Nat.blt t 122 then
         some ⟨12, 96, true, [.int .u64 0, .int .i64 0, .int .i64 0, .int .i64 0, .int .i64 0, .int .i64 0, .int .i64 0, .int .i64 0, .int .i64 0, .int .i64 0, .int .i64 0, .int .i64 0], .struct [(0, 1), (1, 1), (2, 1), (3, 9)]⟩
         else (bif Nat.beq t 122 then some ⟨12, 96, true, [.int .u64 0, .int .i64 0, .int .i64 0, .int .i64 0, .int .i64 0, .int .i64 0, .int .i64 0, .int .i64 0, .int .i64 0, .int .i64 0, .int .i64 0, .int .i64 0], .struct [(0, 1), (1, 1), (2, 1), (3, 9)]⟩ else none)))
       else (bif Nat.blt t 125 then
        some ⟨1, 8, false, [.nilFunc], .other⟩
        else (bif Nat.blt t 126 then
         some ⟨1, 8, false, [.nilFunc], .other⟩
         else some ⟨1, 8, false, [.nilFunc], .other⟩)))
      else (bif Nat.blt t 130 then
       (bif Nat.blt t 128 then
        some ⟨1, 8, false, [.nilFunc], .other⟩
        else (bif Nat.blt t 129 then
         some ⟨1, 8, false, [.nilFunc], .other⟩
         else some ⟨1, 24, false, [.slice none 0 0], .slice 144⟩))
       else (bif Nat.blt t 132 then
        (bif Nat.blt t 131 then
         some ⟨1, 24, true, [.slice none 0 0], .struct [(0, 1)]⟩
         else some ⟨1, 24, true, [.slice none 0 0], .struct [(0, 1)]⟩)
        else (bif Nat.blt t 133 then
         some ⟨1, 8, false, [.nilFunc], .other⟩
         else some ⟨1, 24, false, [.slice none 0 0], .slice 140⟩)))))
    else (bif Nat.blt t 149 then
     (bif Nat.blt t 142 then
      (bif Nat.blt t 139 then
       (bif Nat.blt t 136 then
        (bif Nat.beq t 134 then some ⟨12, 96, true, [.int .u64 0, .int .i64 0, .int .i64 0, .int .i64 0, .int .i64 0, .int .i64 0, .int .i64 0, .int .i64 0, .int .i64 0, .int .i64 0, .int .i64 0, .int .i64 0], .struct [(0, 1), (1, 1), (2, 1), (3, 9)]⟩ else none)
        else (bif Nat.blt t 138 then
         (bif Nat.beq t 136 then some ⟨1, 8, false, [.nilFunc], .other⟩ else none)
         else some ⟨1, 8, false, [.nilFunc], .other⟩))
       else (bif Nat.blt t 140 then
        some ⟨9, 64, true, [.int .i64 0, .int .i64 0, .int .i64 0, .int .i64 0, .int .i64 0, .bool false, .bool false, .int .i64 0, .bool false], .struct [(0, 7), (7, 1), (8, 1)]⟩
        else (bif Nat.blt t 141 then
         some ⟨9, 64, true, [.int .i64 0, .int .i64 0, .int .i64 0, .int .i64 0, .int .i64 0, .bool false, .bool false, .int .i64 0, .bool false], .struct [(0, 7), (7, 1), (8, 1)]⟩
         else some ⟨1, 8, false, [.nilFunc], .other⟩)))
      else (bif Nat.blt t 145 then
       (bif Nat.blt t 143 then
        some ⟨1, 8, false, [.nilFunc], .other⟩
        else (bif Nat.blt t 144 then
         some ⟨11, 80, true, [.bool false, .bool false, .int .i64 0, .int .i64 0, .int .i64 0, .int .i64 0, .int .i64 0, .int .i64 0, .int .i64 0, .int .i64 0, .int .i64 0], .struct [(0, 1), (1, 1), (2, 9)]⟩
         else some ⟨11, 80, true, [.bool false, .bool false, .int .i64 0, .int .i64 0, .int .i64 0, .int .i64 0, .int .i64 0, .int .i64 0, .int .i64 0, .int .i64 0, .int .i64 0], .struct [(0, 1), (1, 1), (2, 9)]⟩))
       else (bif Nat.blt t 146 then
        some ⟨1, 8, false, [.nilFunc], .other⟩
        else (bif Nat.blt t 148 then
         (bif Nat.beq t 146 then some ⟨1, 8, false, [.nilFunc], .other⟩ else none)
         else some ⟨1, 8, false, [.nilFunc], .other⟩))))
     else (bif Nat.blt t 155 then
      (bif Nat.blt t 152 then
       (bif Nat.blt t 150 then
        some ⟨1, 8, false, [.nilFunc], .other⟩
        else (bif Nat.blt t 151 then
         some ⟨0, 0, true, [], .struct []⟩
         else some ⟨0, 0, true, [], .struct []⟩))
       else (bif Nat.blt t 153 then
        some ⟨0, 0, true, [], .struct []⟩
        else (bif Nat.blt t 154 then
         some ⟨1, 4, false, [.int .u32 0], .int .u32⟩
         else some ⟨1, 4, true, [.int .u32 0], .struct [(0, 0), (0, 1)]⟩)))
      else (bif Nat.blt t 158 then
       (bif Nat.blt t 156 then
        some ⟨1, 4, true, [.int .u32 0], .struct [(0, 0), (0, 1)]⟩
        else (bif Nat.blt t 157 then
         some ⟨2, 8, true, [.int .i32 0, .int .u32 0], .struct [(0, 1), (1, 1)]⟩
         else some ⟨2, 8, true, [.int .i32 0, .int .u32 0], .struct [(0, 1), (1, 1)]⟩))
       else (bif Nat.blt t 160 then
        (bif Nat.blt t 159 then
         some ⟨2, 8, true, [.int .i32 0, .int .u32 0], .struct [(0, 0), (0, 2)]⟩
         else some ⟨2, 8, true, [.int .i32 0, .int .u32 0], .struct [(0, 0), (0, 2)]⟩)
        else (bif Nat.blt t 161 then
         some ⟨3, 12, true, [.int .u32 0, .int .i32 0, .int .u32 0], .struct [(0, 0), (0, 1), (1, 2)]⟩
         else some ⟨3, 12, true, [.int .u32 0, .int .i32 0, .int .u32 0], .struct [(0, 0), (0, 1), (1, 2)]⟩))))))
   else (bif Nat.blt t 190 then
    (bif Nat.blt t 174 then
     (bif Nat.blt t 168 then
      (bif Nat.blt t 165 then
       (bif Nat.blt t 163 then
        some ⟨1, 8, false, [.pointer none], .other⟩
        else (bif Nat.blt t 164 then
         some ⟨1, 8, false, [.map none], .other⟩
         else some ⟨6, 56, true, [.slice none 0 0, .int .u32 0, .int .i32 0, .int .u32 0, .pointer none, .map none], .struct [(0, 1), (1, 3), (4, 1), (5, 1)]⟩))
       else (bif Nat.blt t 166 then
        some ⟨6, 56, true, [.slice none 0 0, .int .u32 0, .int .i32 0, .int .u32 0, .pointer none, .map none], .struct [(0, 1), (1, 3), (4, 1), (5, 1)]⟩
        else (bif Nat.blt t 167 then
         some ⟨1, 8, false, [.nilFunc], .other⟩
         else some ⟨1, 8, false, [.nilFunc], .other⟩)))
      else (bif Nat.blt t 171 then
       (bif Nat.blt t 169 then
        some ⟨1, 8, false, [.nilFunc], .other⟩
        else (bif Nat.blt t 170 then
         some ⟨1, 8, false, [.nilFunc], .other⟩
         else some ⟨1, 8, false, [.nilFunc], .other⟩))
       else (bif Nat.blt t 172 then
        some ⟨1, 8, false, [.nilFunc], .other⟩
        else (bif Nat.blt t 173 then
         some ⟨1, 8, false, [.nilFunc], .other⟩
         else some ⟨1, 8, false, [.nilFunc], .other⟩))))
     else (bif Nat.blt t 180 then
      (bif Nat.blt t 177 then
       (bif Nat.blt t 175 then
        some ⟨1, 8, false, [.nilFunc], .other⟩
        else (bif Nat.blt t 176 then
         some ⟨1, 8, false, [.nilFunc], .other⟩
         else some ⟨1, 8, false, [.nilFunc], .other⟩))
       else (bif Nat.blt t 178 then
        some ⟨1, 8, false, [.nilFunc], .other⟩
        else (bif Nat.blt t 179 then
         some ⟨1, 8, false, [.nilFunc], .other⟩
         else some ⟨1, 8, false, [.pointer none], .other⟩)))
      else (bif Nat.blt t 184 then
       (bif Nat.blt t 181 then
        some ⟨7, 96, true, [.pointer none, .pointer none, .int .i64 0, .string ⟨#[]⟩, .slice none 0 0, .slice none 0 0, .int .i64 0], .struct [(0, 1), (1, 1), (2, 5)]⟩
        else (bif Nat.blt t 182 then
         some ⟨7, 96, true, [.pointer none, .pointer none, .int .i64 0, .string ⟨#[]⟩, .slice none 0 0, .slice none 0 0, .int .i64 0], .struct [(0, 1), (1, 1), (2, 5)]⟩
         else (bif Nat.beq t 182 then some ⟨1, 8, false, [.nilFunc], .other⟩ else none)))
       else (bif Nat.blt t 187 then
        (bif Nat.blt t 186 then
         (bif Nat.beq t 184 then some ⟨1, 8, false, [.nilFunc], .other⟩ else none)
         else some ⟨1, 8, false, [.nilFunc], .other⟩)
        else (bif Nat.blt t 189 then
         (bif Nat.beq t 187 then some ⟨1, 8, false, [.nilFunc], .other⟩ else none)
         else some ⟨1, 8, false, [.nilFunc], .other⟩)))))
    else (bif Nat.blt t 204 then
     (bif Nat.blt t 196 then
      (bif Nat.blt t 193 then
       (bif Nat.blt t 191 then
        some ⟨1, 8, false, [.nilFunc], .other⟩
        else (bif Nat.blt t 192 then
         some ⟨1, 8, false, [.nilFunc], .other⟩
         else some ⟨1, 8, false, [.pointer none], .other⟩))
       else (bif Nat.blt t 194 then
        some ⟨1, 8, true, [.pointer none], .struct [(0, 1)]⟩
        else (bif Nat.blt t 195 then
         some ⟨1, 8, true, [.pointer none], .struct [(0, 1)]⟩
         else some ⟨1, 8, false, [.nilFunc], .other⟩)))
      else (bif Nat.blt t 200 then
       (bif Nat.blt t 197 then
        some ⟨1, 8, false, [.nilFunc], .other⟩
        else (bif Nat.blt t 199 then
         (bif Nat.beq t 197 then some ⟨1, 8, false, [.nilFunc], .other⟩ else none)
         else some ⟨1, 8, false, [.nilFunc], .other⟩))
       else (bif Nat.blt t 202 then
        (bif Nat.blt t 201 then
         some ⟨1, 8, false, [.pointer none], .other⟩
         else some ⟨1, 8, false, [.nilFunc], .other⟩)
        else (bif Nat.blt t 203 then
         some ⟨1, 8, false, [.nilFunc], .other⟩
         else some ⟨1, 8, false, [.pointer none], .other⟩))))
     else (bif Nat.blt t 212 then
      (bif Nat.blt t 208 then
       (bif Nat.blt t 205 then
        some ⟨10, 80, true, [.int .i64 0, .int .i64 0, .int .i64 0, .int .i64 0, .int .i64 0, .int .i64 0, .int .i64 0, .int .i64 0, .int .i64 0, .bool false], .struct [(0, 9), (9, 1)]⟩
        else (bif Nat.blt t 207 then
         (bif Nat.beq t 205 then some ⟨10, 80, true, [.int .i64 0, .int .i64 0, .int .i64 0, .int .i64 0, .int .i64 0, .int .i64 0, .int .i64 0, .int .i64 0, .int .i64 0, .bool false], .struct [(0, 9), (9, 1)]⟩ else none)
         else some ⟨1, 8, false, [.nilFunc], .other⟩))
       else (bif Nat.blt t 209 then
        some ⟨1, 8, false, [.nilFunc], .other⟩
        else (bif Nat.blt t 211 then
         (bif Nat.beq t 209 then some ⟨1, 8, false, [.nilFunc], .other⟩ else none)
         else some ⟨1, 8, false, [.nilFunc], .other⟩)))
      else (bif Nat.blt t 216 then
       (bif Nat.blt t 213 then
        some ⟨1, 8, false, [.nilFunc], .other⟩
        else (bif Nat.blt t 214 then
         some ⟨1, 8, false, [.nilFunc], .other⟩
         else (bif Nat.beq t 214 then some ⟨1, 24, false, [.slice none 0 0], .slice 222⟩ else none)))
       else (bif Nat.blt t 218 then
        (bif Nat.blt t 217 then
         some ⟨1, 8, false, [.nilFunc], .other⟩
         else some ⟨1, 8, false, [.pointer none], .other⟩)
        else (bif Nat.blt t 219 then
         some ⟨4, 48, true, [.slice none 0 0, .int .i64 0, .int .i64 0, .int .i64 0], .struct [(0, 1), (1, 1), (2, 2)]⟩
         else some ⟨4, 48, true, [.slice none 0 0, .int .i64 0, .int .i64 0, .int .i64 0], .struct [(0, 1), (1, 1), (2, 2)]⟩))))))))
 else (bif Nat.blt t 327 then
  (bif Nat.blt t 273 then
   (bif Nat.blt t 246 then
    (bif Nat.blt t 232 then
     (bif Nat.blt t 226 then
      (bif Nat.blt t 223 then
       (bif Nat.blt t 221 then
        some ⟨1, 8, false, [.nilFunc], .other⟩
        else (bif Nat.blt t 222 then
         some ⟨4, 40, true, [.int .i64 0, .string ⟨#[]⟩, .int .i64 0, .int .i64 0], .struct [(0, 1), (1, 1), (2, 1), (3, 1)]⟩
         else some ⟨4, 40, true, [.int .i64 0, .string ⟨#[]⟩, .int .i64 0, .int .i64 0], .struct [(0, 1), (1, 1), (2, 1), (3, 1)]⟩))
       else (bif Nat.blt t 224 then
        some ⟨1, 8, false, [.nilFunc], .other⟩
        else (bif Nat.blt t 225 then
         some ⟨1, 8, false, [.nilFunc], .other⟩
         else some ⟨1, 8, false, [.nilFunc], .other⟩)))
      else (bif Nat.blt t 229 then
       (bif Nat.blt t 227 then
        some ⟨1, 8, false, [.pointer none], .other⟩
        else (bif Nat.blt t 228 then
         some ⟨1, 8, false, [.nilFunc], .other⟩
         else some ⟨2, 32, true, [.slice none 0 0, .pointer none], .struct [(0, 1), (1, 1)]⟩))
       else (bif Nat.blt t 230 then
        some ⟨2, 32, true, [.slice none 0 0, .pointer none], .struct [(0, 1), (1, 1)]⟩
        else (bif Nat.blt t 231 then
         some ⟨1, 8, false, [.nilFunc], .other⟩
         else some ⟨1, 24, false, [.slice none 0 0], .slice 4⟩))))
     else (bif Nat.blt t 238 then
      (bif Nat.blt t 235 then
       (bif Nat.blt t 233 then
        some ⟨1, 8, false, [.nilFunc], .other⟩
        else (bif Nat.blt t 234 then
         some ⟨1, 8, false, [.nilFunc], .other⟩
         else some ⟨1, 8, false, [.nilFunc], .other⟩))
       else (bif Nat.blt t 236 then
        some ⟨1, 8, false, [.nilFunc], .other⟩
        else (bif Nat.blt t 237 then
         some ⟨1, 8, false, [.nilFunc], .other⟩
         else some ⟨1, 8, false, [.nilFunc], .other⟩)))
      else (bif Nat.blt t 241 then
       (bif Nat.blt t 239 then
        some ⟨1, 8, false, [.nilFunc], .other⟩
        else (bif Nat.blt t 240 then
         some ⟨1, 8, false, [.pointer none], .other⟩
         else some ⟨1, 8, true, [.pointer none], .struct [(0, 1)]⟩))
       else (bif Nat.blt t 244 then
        (bif Nat.blt t 243 then
         (bif Nat.beq t 241 then some ⟨1, 8, true, [.pointer none], .struct [(0, 1)]⟩ else none)
         else some ⟨1, 8, false, [.nilFunc], .other⟩)
        else (bif Nat.blt t 245 then
         some ⟨1, 8, false, [.pointer none], .other⟩
         else some ⟨1, 8, true, [.pointer none], .struct [(0, 1)]⟩)))))
    else (bif Nat.blt t 259 then
     (bif Nat.blt t 253 then
      (bif Nat.blt t 249 then
       (bif Nat.blt t 247 then
        some ⟨1, 8, true, [.pointer none], .struct [(0, 1)]⟩
        else (bif Nat.blt t 248 then
         some ⟨1, 8, false, [.nilFunc], .other⟩
         else some ⟨1, 8, false, [.nilFunc], .other⟩))
       else (bif Nat.blt t 250 then
        some ⟨1, 8, false, [.nilFunc], .other⟩
        else (bif Nat.blt t 251 then
         some ⟨1, 8, false, [.nilFunc], .other⟩
         else (bif Nat.beq t 251 then some ⟨1, 8, false, [.nilFunc], .other⟩ else none))))
      else (bif Nat.blt t 256 then
       (bif Nat.blt t 254 then
        some ⟨1, 8, false, [.nilFunc], .other⟩
        else (bif Nat.blt t 255 then
         some ⟨1, 8, false, [.nilFunc], .other⟩
         else some ⟨1, 8, false, [.nilFunc], .other⟩))
       else (bif Nat.blt t 257 then
        some ⟨1, 8, false, [.nilFunc], .other⟩
        else (bif Nat.blt t 258 then
         some ⟨1, 8, false, [.nilFunc], .other⟩
         else some ⟨1, 8, false, [.nilFunc], .other⟩))))
     else (bif Nat.blt t 265 then
      (bif Nat.blt t 262 then
       (bif Nat.blt t 260 then
        some ⟨1, 8, false, [.nilFunc], .other⟩
        else (bif Nat.blt t 261 then
         some ⟨1, 8, false, [.nilFunc], .other⟩
         else some ⟨1, 8, false, [.nilFunc], .other⟩))
       else (bif Nat.blt t 263 then
        some ⟨1, 8, false, [.pointer none], .other⟩
        else (bif Nat.blt t 264 then
         some ⟨1, 24, false, [.slice none 0 0], .slice 5⟩
         else some ⟨2, 32, true, [.pointer none, .slice none 0 0], .struct [(0, 1), (1, 1)]⟩)))
      else (bif Nat.blt t 269 then
       (bif Nat.blt t 266 then
        some ⟨2, 32, true, [.pointer none, .slice none 0 0], .struct [(0, 1), (1, 1)]⟩
        else (bif Nat.blt t 267 then
         some ⟨1, 16, false, [.nilIface], .other⟩
         else (bif Nat.beq t 267 then some ⟨1, 16, false, [.nilIface], .other⟩ else none)))
       else (bif Nat.blt t 271 then
        (bif Nat.blt t 270 then
         some ⟨1, 8, false, [.nilFunc], .other⟩
         else some ⟨1, 8, false, [.nilFunc], .other⟩)
        else (bif Nat.blt t 272 then
         some ⟨1, 8, false, [.nilFunc], .other⟩
         else some ⟨1, 8, false, [.nilFunc], .other⟩))))))
   else (bif Nat.blt t 301 then
    (bif Nat.blt t 288 then
     (bif Nat.blt t 279 then
      (bif Nat.blt t 276 then
       (bif Nat.blt t 274 then
        some ⟨1, 8, false, [.nilFunc], .other⟩
        else (bif Nat.blt t 275 then
         some ⟨1, 8, false, [.nilFunc], .other⟩
         else some ⟨1, 8, false, [.nilFunc], .other⟩))
       else (bif Nat.blt t 277 then
        some ⟨1, 8, false, [.nilFunc], .other⟩
        else (bif Nat.blt t 278 then
         some ⟨1, 8, false, [.pointer none], .other⟩
         else some ⟨1, 8, false, [.nilFunc], .other⟩)))
      else (bif Nat.blt t 283 then
       (bif Nat.blt t 281 then
        (bif Nat.beq t 279 then some ⟨1, 8, false, [.nilFunc], .other⟩ else none)
        else (bif Nat.blt t 282 then
         some ⟨1, 8, false, [.nilFunc], .other⟩
         else some ⟨1, 8, false, [.nilFunc], .other⟩))
       else (bif Nat.blt t 284 then
        some ⟨1, 8, false, [.nilFunc], .other⟩
        else (bif Nat.blt t 286 then
         (bif Nat.beq t 284 then some ⟨1, 8, false, [.nilFunc], .other⟩ else none)
         else (bif Nat.beq t 286 then some ⟨1, 8, false, [.nilFunc], .other⟩ else none)))))
     else (bif Nat.blt t 294 then
      (bif Nat.blt t 291 then
       (bif Nat.blt t 289 then
        some ⟨1, 8, false, [.nilFunc], .other⟩
        else (bif Nat.blt t 290 then
         some ⟨1, 8, false, [.nilFunc], .other⟩
         else some ⟨1, 8, false, [.nilFunc], .other⟩))
       else (bif Nat.blt t 292 then
        some ⟨1, 8, false, [.pointer none], .other⟩
        else (bif Nat.blt t 293 then
         some ⟨3, 48, true, [.string ⟨#[]⟩, .int .i64 0, .slice none 0 0], .struct [(0, 1), (1, 1), (2, 1)]⟩
         else some ⟨3, 48, true, [.string ⟨#[]⟩, .int .i64 0, .slice none 0 0], .struct [(0, 1), (1, 1), (2, 1)]⟩)))
      else (bif Nat.blt t 297 then
       (bif Nat.blt t 295 then
        some ⟨1, 8, false, [.nilFunc], .other⟩
        else (bif Nat.blt t 296 then
         some ⟨1, 8, false, [.nilFunc], .other⟩
         else some ⟨1, 8, false, [.nilFunc], .other⟩))
       else (bif Nat.blt t 299 then
        (bif Nat.blt t 298 then
         some ⟨1, 8, false, [.nilFunc], .other⟩
         else some ⟨1, 8, false, [.map none], .other⟩)
        else (bif Nat.blt t 300 then
         some ⟨2, 32, true, [.map none, .slice none 0 0], .struct [(0, 1), (1, 1)]⟩
         else some ⟨2, 32, true, [.map none, .slice none 0 0], .struct [(0, 1), (1, 1)]⟩)))))
    else (bif Nat.blt t 314 then
     (bif Nat.blt t 307 then
      (bif Nat.blt t 304 then
       (bif Nat.blt t 302 then
        some ⟨1, 8, false, [.pointer none], .other⟩
        else (bif Nat.blt t 303 then
         some ⟨1, 8, false, [.map none], .other⟩
         else some ⟨2, 16, true, [.map none, .map none], .struct [(0, 1), (1, 1)]⟩))
       else (bif Nat.blt t 305 then
        some ⟨2, 16, true, [.map none, .map none], .struct [(0, 1), (1, 1)]⟩
        else (bif Nat.blt t 306 then
         some ⟨1, 8, false, [.nilFunc], .other⟩
         else some ⟨1, 8, false, [.nilFunc], .other⟩)))
      else (bif Nat.blt t 310 then
       (bif Nat.blt t 308 then
        some ⟨1, 8, false, [.nilFunc], .other⟩
        else (bif Nat.blt t 309 then
         some ⟨1, 8, false, [.pointer none], .other⟩
         else some ⟨1, 8, false, [.nilFunc], .other⟩))
       else (bif Nat.blt t 312 then
        (bif Nat.blt t 311 then
         some ⟨1, 8, false, [.nilFunc], .other⟩
         else some ⟨1, 16, false, [.nilIface], .other⟩)
        else (bif Nat.blt t 313 then
         some ⟨1, 16, false, [.nilIface], .other⟩
         else some ⟨1, 8, false, [.nilFunc], .other⟩))))
     else (bif Nat.blt t 320 then
      (bif Nat.blt t 317 then
       (bif Nat.blt t 315 then
        some ⟨1, 8, false, [.nilFunc], .other⟩
        else (bif Nat.blt t 316 then
         some ⟨1, 8, false, [.nilFunc], .other⟩
         else some ⟨1, 8, false, [.int .u64 0], .int .u64⟩))
       else (bif Nat.blt t 318 then
        some ⟨1, 8, false, [.nilFunc], .other⟩
        else (bif Nat.blt t 319 then
         some ⟨1, 8, false, [.nilFunc], .other⟩
         else some ⟨1, 8, false, [.nilFunc], .other⟩)))
      else (bif Nat.blt t 323 then
       (bif Nat.blt t 321 then
        some ⟨1, 8, false, [.nilFunc], .other⟩
        else (bif Nat.blt t 322 then
         some ⟨1, 8, false, [.nilFunc], .other⟩
         else some ⟨1, 8, false, [.nilFunc], .other⟩))
       else (bif Nat.blt t 325 then
        (bif Nat.blt t 324 then
         some ⟨1, 8, false, [.pointer none], .other⟩
         else some ⟨1, 8, false, [.nilFunc], .other⟩)
        else (bif Nat.blt t 326 then
         some ⟨1, 8, false, [.nilFunc], .other⟩
         else some ⟨1, 8, false, [.nilFunc], .other⟩)))))))
  else (bif Nat.blt t 378 then
   (bif Nat.blt t 352 then
    (bif Nat.blt t 339 then
     (bif Nat.blt t 333 then
      (bif Nat.blt t 330 then
       (bif Nat.blt t 328 then
        some ⟨1, 8, false, [.nilFunc], .other⟩
        else (bif Nat.blt t 329 then
         some ⟨3, 32, true, [.string ⟨#[]⟩, .int .i64 0, .int .i64 0], .struct [(0, 1), (1, 1), (2, 1)]⟩
         else some ⟨3, 32, true, [.string ⟨#[]⟩, .int .i64 0, .int .i64 0], .struct [(0, 1), (1, 1), (2, 1)]⟩))
       else (bif Nat.blt t 331 then
        some ⟨1, 8, false, [.nilFunc], .other⟩
        else (bif Nat.blt t 332 then
         some ⟨1, 8, false, [.nilFunc], .other⟩
         else some ⟨1, 8, false, [.nilFunc], .other⟩)))
      else (bif Nat.blt t 336 then
       (bif Nat.blt t 334 then
        some ⟨1, 8, false, [.nilFunc], .other⟩
        else (bif Nat.blt t 335 then
         some ⟨1, 8, false, [.nilFunc], .other⟩
         else some ⟨1, 8, false, [.nilFunc], .other⟩))
       else (bif Nat.blt t 337 then
        some ⟨1, 8, false, [.nilFunc], .other⟩
        else (bif Nat.blt t 338 then
         some ⟨1, 8, false, [.nilFunc], .other⟩
         else some ⟨1, 8, false, [.nilFunc], .other⟩))))
     else (bif Nat.blt t 345 then
      (bif Nat.blt t 342 then
       (bif Nat.blt t 340 then
        some ⟨1, 8, false, [.nilFunc], .other⟩
        else (bif Nat.blt t 341 then
         some ⟨1, 8, false, [.nilFunc], .other⟩
         else some ⟨1, 8, false, [.nilFunc], .other⟩))
       else (bif Nat.blt t 343 then
        some ⟨1, 24, false, [.slice none 0 0], .slice 9⟩
        else (bif Nat.blt t 344 then
         some ⟨1, 8, false, [.nilFunc], .other⟩
         else some ⟨1, 8, false, [.pointer none], .other⟩)))
      else (bif Nat.blt t 348 then
       (bif Nat.blt t 346 then
        some ⟨1, 8, false, [.nilFunc], .other⟩
        else (bif Nat.blt t 347 then
         some ⟨1, 8, false, [.pointer none], .other⟩
         else some ⟨1, 8, false, [.nilFunc], .other⟩))
       else (bif Nat.blt t 350 then
        (bif Nat.blt t 349 then
         some ⟨1, 8, false, [.nilFunc], .other⟩
         else some ⟨1, 8, false, [.nilFunc], .other⟩)
        else (bif Nat.blt t 351 then
         some ⟨2, 16, true, [.int .i64 0, .int .i64 0], .struct [(0, 1), (1, 1)]⟩
         else some ⟨2, 16, true, [.int .i64 0, .int .i64 0], .struct [(0, 1), (1, 1)]⟩)))))
    else (bif Nat.blt t 364 then
     (bif Nat.blt t 358 then
      (bif Nat.blt t 355 then
       (bif Nat.blt t 353 then
        some ⟨1, 1, true, [.bool false], .struct [(0, 1)]⟩
        else (bif Nat.blt t 354 then
         some ⟨1, 1, true, [.bool false], .struct [(0, 1)]⟩
         else some ⟨0, 0, true, [], .struct []⟩))
       else (bif Nat.blt t 356 then
        some ⟨0, 0, true, [], .struct []⟩
        else (bif Nat.blt t 357 then
         some ⟨1, 8, true, [.int .i64 0], .struct [(0, 1)]⟩
         else some ⟨1, 8, true, [.int .i64 0], .struct [(0, 1)]⟩)))
      else (bif Nat.blt t 361 then
       (bif Nat.blt t 359 then
        some ⟨1, 8, false, [.nilFunc], .other⟩
        else (bif Nat.blt t 360 then
         some ⟨1, 8, false, [.nilFunc], .other⟩
         else some ⟨1, 8, false, [.nilFunc], .other⟩))
       else (bif Nat.blt t 362 then
        some ⟨1, 8, false, [.nilFunc], .other⟩
        else (bif Nat.blt t 363 then
         some ⟨1, 8, false, [.pointer none], .other⟩
         else some ⟨1, 8, false, [.nilFunc], .other⟩))))
     else (bif Nat.blt t 371 then
      (bif Nat.blt t 368 then
       (bif Nat.blt t 366 then
        (bif Nat.beq t 364 then some ⟨1, 8, false, [.int .i64 0], .int .i64⟩ else none)
        else (bif Nat.blt t 367 then
         some ⟨1, 8, false, [.nilFunc], .other⟩
         else some ⟨1, 8, false, [.nilFunc], .other⟩))
       else (bif Nat.blt t 369 then
        some ⟨1, 8, false, [.nilFunc], .other⟩
        else (bif Nat.blt t 370 then
         some ⟨1, 8, false, [.pointer none], .other⟩
         else some ⟨1, 8, false, [.pointer none], .other⟩)))
      else (bif Nat.blt t 374 then
       (bif Nat.blt t 372 then
        some ⟨3, 24, true, [.pointer none, .int .i64 0, .int .i64 0], .struct [(0, 1), (1, 1), (2, 1)]⟩
        else (bif Nat.blt t 373 then
         some ⟨3, 24, true, [.pointer none, .int .i64 0, .int .i64 0], .struct [(0, 1), (1, 1), (2, 1)]⟩
         else some ⟨1, 8, false, [.nilFunc], .other⟩))
       else (bif Nat.blt t 376 then
        (bif Nat.blt t 375 then
         some ⟨1, 8, false, [.nilFunc], .other⟩
         else some ⟨1, 8, false, [.nilFunc], .other⟩)
        else (bif Nat.blt t 377 then
         some ⟨1, 8, false, [.nilFunc], .other⟩
         else some ⟨1, 8, false, [.nilFunc], .other⟩))))))
   else (bif Nat.blt t 404 then
    (bif Nat.blt t 391 then
     (bif Nat.blt t 384 then
      (bif Nat.blt t 381 then
       (bif Nat.blt t 379 then
        some ⟨1, 8, false, [.nilFunc], .other⟩
        else (bif Nat.blt t 380 then
         some ⟨1, 8, false, [.pointer none], .other⟩
         else some ⟨1, 8, false, [.nilFunc], .other⟩))
       else (bif Nat.blt t 382 then
        some ⟨1, 8, false, [.nilFunc], .other⟩
        else (bif Nat.blt t 383 then
         some ⟨27, 216, true, [.pointer none, .int .i64 0, .int .i64 0, .pointer none, .int .i64 0, .int .i64 0, .pointer none, .int .i64 0, .int .i64 0, .pointer none, .int .i64 0, .int .i64 0, .pointer none, .int .i64 0, .int .i64 0, .pointer none, .int .i64 0, .int .i64 0, .pointer none, .int .i64 0, .int .i64 0, .pointer none, .int .i64 0, .int .i64 0, .pointer none, .int .i64 0, .int .i64 0], .arr 9 372⟩
         else some ⟨1, 8, false, [.nilFunc], .other⟩)))
      else (bif Nat.blt t 388 then
       (bif Nat.blt t 385 then
        some ⟨1, 8, false, [.nilFunc], .other⟩
        else (bif Nat.blt t 387 then
         (bif Nat.beq t 385 then some ⟨1, 8, false, [.int .i64 0], .int .i64⟩ else none)
         else some ⟨1, 8, false, [.nilFunc], .other⟩))
       else (bif Nat.blt t 389 then
        some ⟨1, 8, false, [.nilFunc], .other⟩
        else (bif Nat.blt t 390 then
         some ⟨1, 8, false, [.nilFunc], .other⟩
         else some ⟨1, 8, false, [.nilFunc], .other⟩))))
     else (bif Nat.blt t 397 then
      (bif Nat.blt t 394 then
       (bif Nat.blt t 392 then
        some ⟨1, 8, false, [.nilFunc], .other⟩
        else (bif Nat.blt t 393 then
         some ⟨1, 8, false, [.nilFunc], .other⟩
         else some ⟨1, 8, false, [.nilFunc], .other⟩))
       else (bif Nat.blt t 395 then
        some ⟨1, 8, false, [.nilFunc], .other⟩
        else (bif Nat.blt t 396 then
         some ⟨1, 8, false, [.pointer none], .other⟩
         else some ⟨1, 8, false, [.nilFunc], .other⟩)))
      else (bif Nat.blt t 400 then
       (bif Nat.blt t 398 then
        some ⟨1, 8, false, [.pointer none], .other⟩
        else (bif Nat.blt t 399 then
         some ⟨1, 8, false, [.nilFunc], .other⟩
         else some ⟨1, 8, false, [.nilFunc], .other⟩))
       else (bif Nat.blt t 402 then
        (bif Nat.blt t 401 then
         some ⟨1, 8, false, [.nilFunc], .other⟩
         else some ⟨1, 8, false, [.int .u64 0], .int .u64⟩)
        else (bif Nat.blt t 403 then
         some ⟨1, 8, false, [.nilFunc], .other⟩
         else some ⟨1, 8, false, [.nilFunc], .other⟩)))))
    else (bif Nat.blt t 419 then
     (bif Nat.blt t 412 then
      (bif Nat.blt t 407 then
       (bif Nat.blt t 405 then
        some ⟨1, 8, false, [.nilFunc], .other⟩
        else (bif Nat.blt t 406 then
         some ⟨1, 8, false, [.nilFunc], .other⟩
         else some ⟨1, 8, false, [.nilFunc], .other⟩))
       else (bif Nat.blt t 409 then
        (bif Nat.beq t 407 then some ⟨1, 8, false, [.pointer none], .other⟩ else none)
        else (bif Nat.blt t 411 then
         (bif Nat.beq t 409 then some ⟨1, 8, false, [.nilFunc], .other⟩ else none)
         else some ⟨1, 8, false, [.nilFunc], .other⟩)))
      else (bif Nat.blt t 415 then
       (bif Nat.blt t 413 then
        some ⟨4, 40, true, [.pointer none, .pointer none, .pointer none, .string ⟨#[]⟩], .struct [(0, 1), (1, 1), (2, 1), (3, 1)]⟩
        else (bif Nat.blt t 414 then
         some ⟨4, 40, true, [.pointer none, .pointer none, .pointer none, .string ⟨#[]⟩], .struct [(0, 1), (1, 1), (2, 1), (3, 1)]⟩
         else some ⟨0, 0, true, [], .arr 0 16⟩))
       else (bif Nat.blt t 417 then
        (bif Nat.blt t 416 then
         some ⟨0, 0, true, [], .struct [(0, 0)]⟩
         else some ⟨0, 0, true, [], .struct [(0, 0)]⟩)
        else (bif Nat.blt t 418 then
         some ⟨1, 1, false, [.int .u8 0], .int .u8⟩
         else some ⟨1, 1, false, [.int .u8 0], .int .u8⟩))))
     else (bif Nat.blt t 427 then
      (bif Nat.blt t 422 then
       (bif Nat.blt t 420 then
        some ⟨1, 8, false, [.nilFunc], .other⟩
        else (bif Nat.blt t 421 then
         some ⟨1, 4, false, [.int .i32 0], .int .i32⟩
         else some ⟨1, 4, false, [.int .i32 0], .int .i32⟩))
       else (bif Nat.blt t 423 then
        some ⟨11, 48, true, [.int .u64 0, .int .u64 0, .int .u32 0, .int .u8 0, .int .u8 0, .int .u8 0, .int .u8 0, .nilFunc, .pointer none, .int .i32 0, .int .i32 0], .struct [(0, 1), (1, 1), (2, 1), (3, 1), (4, 1), (5, 1), (6, 1), (7, 1), (8, 1), (9, 1), (10, 1)]⟩
        else (bif Nat.blt t 425 then
         (bif Nat.beq t 423 then some ⟨11, 48, true, [.int .u64 0, .int .u64 0, .int .u32 0, .int .u8 0, .int .u8 0, .int .u8 0, .int .u8 0, .nilFunc, .pointer none, .int .i32 0, .int .i32 0], .struct [(0, 1), (1, 1), (2, 1), (3, 1), (4, 1), (5, 1), (6, 1), (7, 1), (8, 1), (9, 1), (10, 1)]⟩ else none)
         else (bif Nat.beq t 425 then some ⟨1, 8, false, [.nilFunc], .other⟩ else none))))
      else (bif Nat.blt t 430 then
       (bif Nat.blt t 428 then
        some ⟨2, 2, true, [.int .u8 0, .int .u8 0], .struct [(0, 1), (1, 1)]⟩
        else (bif Nat.blt t 429 then
         some ⟨2, 2, true, [.int .u8 0, .int .u8 0], .struct [(0, 1), (1, 1)]⟩
         else some ⟨32, 32, true, [.int .u8 0, .int .u8 0, .int .u8 0, .int .u8 0, .int .u8 0, .int .u8 0, .int .u8 0, .int .u8 0, .int .u8 0, .int .u8 0, .int .u8 0, .int .u8 0, .int .u8 0, .int .u8 0, .int .u8 0, .int .u8 0, .int .u8 0, .int .u8 0, .int .u8 0, .int .u8 0, .int .u8 0, .int .u8 0, .int .u8 0, .int .u8 0, .int .u8 0, .int .u8 0, .int .u8 0, .int .u8 0, .int .u8 0, .int .u8 0, .int .u8 0, .int .u8 0], .arr 16 428⟩))
       else (bif Nat.blt t 432 then
        (bif Nat.blt t 431 then
         some ⟨1, 8, false, [.nilFunc], .other⟩
         else some ⟨1, 8, false, [.nilFunc], .other⟩)
        else (bif Nat.blt t 433 then
         some ⟨1, 8, false, [.nilFunc], .other⟩
         else some ⟨1, 8, false, [.nilFunc], .other⟩)))))))))
def Tryz.tab : Tab := mkTab 434 Tryz.tabF
theorem Tryz.tabOK : TabOK Tryz.prog Tryz.tab := Go.Sy.tabOK (by kernel_rfl)

theorem Tryz.wide_ : Tryz.prog.follows .mixedOrders = true := by kernel_rfl
end Go.Proofs

set_option maxRecDepth 100000
namespace Go.Proofs
open Go.Sy Go.Lib
abbrev INTc (i : Int) : List AV := [I64 i]
abbrev STRc (l : List UInt8) : List AV := [.s l]
abbrev BOLc (b : Bool) : List AV := [B b]
def FU : Nat := 100000
structure Mth where
  tag : Int
  name : List UInt8
  fin : List UInt8
  fout : List UInt8
  oneWay : Bool

instance : Inhabited Mth := ⟨⟨0, [], [], [], false⟩⟩
def Mth.c (x : Mth) : List AV := [I64 x.tag, .s x.name, .s x.fin, .s x.fout, B x.oneWay]
structure Ty where
  kind : Int
  name : List UInt8
  of : List Ty

instance : Inhabited Ty := ⟨⟨0, [], []⟩⟩
mutual
def Ty.cells : Ty → List AV
  | ⟨a0, a1, a2⟩ => [I64 a0, .s a1, .sl a2.length 3 (Ty.rows a2)]
def Ty.rows : List Ty → Nat → List AV
  | [], _ => []
  | x :: _, 0 => Ty.cells x
  | _ :: xs, i + 1 => Ty.rows xs i
end
def Ty.c (x : Ty) : List AV := [I64 x.kind, .s x.name, .sl x.of.length 3 (Ty.rows x.of)]
theorem Ty.rows_eq : ∀ (l : List Ty) (i : Nat), i < l.length → Ty.rows l i = Ty.c (l.getD i default)
  | [], i, h => absurd h (Nat.not_lt_zero _)
  | ⟨a0, a1, a2⟩ :: xs, 0, _ => by simp only [Ty.rows, Ty.cells, Ty.c, List.getD_cons_zero]
  | x :: xs, i + 1, h => by simp only [Ty.rows, List.getD_cons_succ]; exact Ty.rows_eq xs i (by simpa using h)
structure Fld where
  tag : Int
  name : List UInt8
  ty : Ty

instance : Inhabited Fld := ⟨⟨0, [], default⟩⟩
def Fld.c (x : Fld) : List AV := [I64 x.tag, .s x.name, I64 x.ty.kind, .s x.ty.name, .sl x.ty.of.length 3 (Ty.rows x.ty.of)]
structure Dcl where
  kind : Int
  name : List UInt8
  fields : List Fld
  methods : List Mth
  fat : Int

instance : Inhabited Dcl := ⟨⟨0, [], [], [], 0⟩⟩
def Dcl.c (x : Dcl) : List AV := [I64 x.kind, .s x.name, SL 5 Fld.c x.fields, SL 5 Mth.c x.methods, I64 x.fat]
structure Flt where
  err : Int
  fat : Int

instance : Inhabited Flt := ⟨⟨0, 0⟩⟩
def Flt.c (x : Flt) : List AV := [I64 x.err, I64 x.fat]
end Go.Proofs

namespace Go.Proofs
open Go.Sy Go.Lib

noncomputable def Find_L1 (l : List Dcl) (nm : List UInt8) (s1 : Int) : Option ((Int) ⊕ ((Int) ⊕ (Unit))) :=
  cond (decide (s1 < (l.length : Int))) (chk ((0 : Int) ≤ s1 ∧ s1 < (l.length : Int)) (cond (((l.getD (Int.toNat s1) default).name) == nm) (some (Sum.inr ((Sum.inl s1)))) (some (Sum.inl (IntKind.i64.wrap (s1 + 1)))))) (some (Sum.inr ((Sum.inr ()))))
noncomputable def Find_F (l : List Dcl) (nm : List UInt8) : Option (Int) :=
  Option.bind (Iter (Find_L1 l nm) 0) (Sum.elim (fun c10 => some c10) (fun b6 => some (-1)))
theorem Find_w (l : List Dcl) (nm : List UInt8) (r : Int) (h : Find_F l nm = some r) : FnP Tryz.prog 129 [SL 5 Dcl.c l, .s nm] (· = I64 r) := by
  unfold Find_F at h
  refine FnP.intro Tryz.tabOK Tryz.wide_ Tryz.func129 rfl (by decide) rfl (fun X => ?_)
  iterate 2 refine sc rfl ?_
  first|refine so rfl ?_|refine sb rfl ?_
  refine so rfl ?_
  iterate 3 refine sc rfl ?_
  first|refine so rfl ?_|refine sb rfl ?_
  refine so rfl ?_
  obtain ⟨o2, ho2, h⟩ := bT h
  refine C_joinP ((fun b6 : Unit => (⟨[], []⟩ : St)) (match o2 with | (.inl b6) => default | (.inr b6) => b6)) (∃ b, o2 = (.inr b)) ?_ (fun s hs hp => ?_)
  · refine sc rfl ?_
    refine C_iter (fun s1 : Int => ⟨[(0, SL 5 Dcl.c l), (1, .s nm), (5, I64 s1)], []⟩) ho2 (Le.sub [] ⟨rfl, rfl, rfl, trivial⟩ rfl) (fun s1 y3 hy4 hr5 => ?_)
    unfold Find_L1 at hy4
    iterate 3 refine sc rfl ?_
    iterate 4 (first|refine so rfl ?_|refine sb rfl ?_)
    refine so rfl ?_
    refine C_if rfl (fun hb7 => ?_) (fun hb7 => ?_)
    · replace hy4 := cT hb7 hy4
      iterate 5 refine sc rfl ?_
      iterate 2 (first|refine so rfl ?_|refine sb rfl ?_)
      obtain ⟨g8, hy4⟩ := gT hy4
      refine so rfl (And.intro g8 ?_)
      iterate 4 (first|refine so rfl ?_|refine sb rfl ?_)
      refine so rfl ?_
      refine C_if rfl (fun hb9 => ?_) (fun hb9 => ?_)
      · replace hy4 := cT hb9 hy4
        iterate 2 refine sc rfl ?_
        iterate 2 (first|refine so rfl ?_|refine sb rfl ?_)
        refine so rfl ?_
        refine sc rfl ?_
        obtain rfl := Option.some.inj hy4
        have ho22 := hr5 _ rfl
        subst ho22
        obtain rfl := Option.some.inj h
        exact ⟨_, rfl, rfl, rfl⟩
      · replace hy4 := cF hb9 hy4
        iterate 2 refine sc rfl ?_
        iterate 3 (first|refine so rfl ?_|refine sb rfl ?_)
        refine so rfl ?_
        obtain rfl := Option.some.inj hy4
        exact ⟨_, rfl, Le.sub [] ⟨rfl, rfl, rfl, trivial⟩ rfl⟩
    · replace hy4 := cF hb7 hy4
      refine sc rfl ?_
      obtain rfl := Option.some.inj hy4
      have ho22 := hr5 _ rfl
      subst ho22
      exact ⟨Le.sub [] trivial rfl, ⟨_, rfl⟩⟩
  obtain ⟨b6, rfl⟩ := hp
  refine C_le ⟨[], []⟩ hs ?_
  iterate 2 refine sc rfl ?_
  first|refine so rfl ?_|refine sb rfl ?_
  refine so rfl ?_
  refine sc rfl ?_
  obtain rfl := Option.some.inj h
  exact ⟨_, rfl, rfl, rfl⟩
noncomputable def RowsR_L13 (l : List Dcl) (nm : List UInt8) (r1 : Int) (s5 : Int × List Fld) (s13 : Int × Int) : Option ((Int × Int) ⊕ ((Int))) :=
  chk ((0 : Int) ≤ r1 ∧ r1 < (l.length : Int)) (cond (decide (s13.2 < (((l.getD (Int.toNat r1) default).fields).length : Int))) (chk ((0 : Int) ≤ r1 ∧ r1 < (l.length : Int)) (chk ((0 : Int) ≤ s13.2 ∧ s13.2 < (((l.getD (Int.toNat r1) default).fields).length : Int)) (cond (decide (s5.1 < ((((l.getD (Int.toNat r1) default).fields).getD (Int.toNat s13.2) default).tag))) (cond (decide (s13.1 < 0)) (some (Sum.inl (s13.2, IntKind.i64.wrap (s13.2 + 1)))) (chk ((0 : Int) ≤ r1 ∧ r1 < (l.length : Int)) (chk ((0 : Int) ≤ s13.1 ∧ s13.1 < (((l.getD (Int.toNat r1) default).fields).length : Int)) (Option.bind (α := Int) (cond (decide (((((l.getD (Int.toNat r1) default).fields).getD (Int.toNat s13.2) default).tag) < ((((l.getD (Int.toNat r1) default).fields).getD (Int.toNat s13.1) default).tag))) (some s13.2) (some s13.1)) (fun m27 => some (Sum.inl (m27, IntKind.i64.wrap (s13.2 + 1)))))))) (some (Sum.inl (s13.1, IntKind.i64.wrap (s13.2 + 1))))))) (some (Sum.inr (s13.1))))
noncomputable def RowsR_L5 (l : List Dcl) (nm : List UInt8) (r1 : Int) (s5 : Int × List Fld) : Option ((Int × List Fld) ⊕ ((List Fld) ⊕ (List Fld))) :=
  chk ((0 : Int) ≤ r1 ∧ r1 < (l.length : Int)) (cond (decide ((s5.2.length : Int) < (((l.getD (Int.toNat r1) default).fields).length : Int))) (Option.bind (Iter (RowsR_L13 l nm r1 s5) ((-1), 0)) (fun o14 => cond (decide (o14 < 0)) (some (Sum.inr ((Sum.inl s5.2)))) (chk ((0 : Int) ≤ r1 ∧ r1 < (l.length : Int)) (chk ((0 : Int) ≤ o14 ∧ o14 < (((l.getD (Int.toNat r1) default).fields).length : Int)) (chk (s5.2.length < 100000000000) (chk ((0 : Int) ≤ r1 ∧ r1 < (l.length : Int)) (chk ((0 : Int) ≤ o14 ∧ o14 < (((l.getD (Int.toNat r1) default).fields).length : Int)) (some (Sum.inl ((((l.getD (Int.toNat r1) default).fields).getD (Int.toNat o14) default).tag, s5.2 ++ [(⟨(((l.getD (Int.toNat r1) default).fields).getD (Int.toNat o14) default).tag, (((l.getD (Int.toNat r1) default).fields).getD (Int.toNat o14) default).name, ((((l.getD (Int.toNat r1) default).fields).getD (Int.toNat o14) default).ty)⟩ : Fld)])))))))))) (some (Sum.inr ((Sum.inr s5.2)))))
noncomputable def RowsR_F (l : List Dcl) (nm : List UInt8) : Option (List Fld) :=
  Option.bind (Find_F l nm) (fun r1 => cond (decide (r1 < 0)) (some ([] : List Fld)) (Option.bind (Iter (RowsR_L5 l nm r1) ((-1), ([] : List Fld))) (Sum.elim (fun c35 => some c35) (fun b10 => some b10))))
theorem RowsR_w (l : List Dcl) (nm : List UInt8) (r : List Fld) (h : RowsR_F l nm = some r) : FnP Tryz.prog 217 [SL 5 Dcl.c l, .s nm] (· = SL 5 Fld.c r) := by
  unfold RowsR_F at h
  refine FnP.intro Tryz.tabOK Tryz.wide_ Tryz.func217 rfl (by decide) rfl (fun X => ?_)
  iterate 2 refine sc rfl ?_
  first|refine so rfl ?_|refine sb rfl ?_
  refine so rfl ?_
  iterate 2 refine sc rfl ?_
  first|refine so rfl ?_|refine sb rfl ?_
  refine so rfl ?_
  iterate 2 refine sc rfl ?_
  iterate 2 (first|refine so rfl ?_|refine sb rfl ?_)
  obtain ⟨r1, hr2, h⟩ := bT h
  refine O_call (Find_w _ _ _ hr2) (by rfl) (by rfl) (by rfl) (by rfl) (fun q3 hq3 => ?_)
  subst hq3
  first|refine so rfl ?_|refine sb rfl ?_
  refine so rfl ?_
  iterate 3 refine sc rfl ?_
  iterate 2 (first|refine so rfl ?_|refine sb rfl ?_)
  refine so rfl ?_
  refine C_if rfl (fun hb4 => ?_) (fun hb4 => ?_)
  · replace h := cT hb4 h
    iterate 2 refine sc rfl ?_
    iterate 2 (first|refine so rfl ?_|refine sb rfl ?_)
    refine so rfl ?_
    refine C_le _ (Le.one 4 (SL 5 Fld.c []) rfl .nil) ?_
    refine sc rfl ?_
    obtain rfl := Option.some.inj h
    exact ⟨_, rfl, rfl, rfl⟩
  · replace h := cF hb4 h
    iterate 3 refine sc rfl ?_
    first|refine so rfl ?_|refine sb rfl ?_
    refine so rfl ?_
    refine sc rfl ?_
    refine C_le _ (Le.nilvec Fld.c 5 79 65 5 rfl rfl rfl) ?_
    obtain ⟨o6, ho6, h⟩ := bT h
    refine C_joinP ((fun b10 : List Fld => (⟨[(5, .own 79)], [VEC 79 65 5 Fld.c b10]⟩ : St)) (match o6 with | (.inl b10) => default | (.inr b10) => b10)) (∃ b, o6 = (.inr b)) ?_ (fun s hs hp => ?_)
    · refine sc rfl ?_
      refine C_iter (fun s5 : Int × List Fld => ⟨[(0, SL 5 Dcl.c l), (5, .own 79), (6, I64 r1), (7, I64 s5.1)], [VEC 79 65 5 Fld.c s5.2]⟩) ho6 (Le.sub [79] ⟨rfl, rfl, rfl, rfl, trivial⟩ rfl) (fun s5 y7 hy8 hr9 => ?_)
      unfold RowsR_L5 at hy8
      iterate 3 refine sc rfl ?_
      iterate 4 (first|refine so rfl ?_|refine sb rfl ?_)
      obtain ⟨g11, hy8⟩ := gT hy8
      refine so rfl (And.intro g11 ?_)
      iterate 4 (first|refine so rfl ?_|refine sb rfl ?_)
      refine so rfl ?_
      refine C_if rfl (fun hb12 => ?_) (fun hb12 => ?_)
      · replace hy8 := cT hb12 hy8
        iterate 4 refine sc rfl ?_
        first|refine so rfl ?_|refine sb rfl ?_
        refine so rfl ?_
        iterate 3 refine sc rfl ?_
        first|refine so rfl ?_|refine sb rfl ?_
        refine so rfl ?_
        obtain ⟨o14, ho14, hy8⟩ := bT hy8
        refine C_joinP ⟨[(0, SL 5 Dcl.c l), (5, .own 79), (6, I64 r1), (8, I64 o14)], [VEC 79 65 5 Fld.c s5.2]⟩ True ?_ (fun s hs hp => ?_)
        · refine sc rfl ?_
          refine C_iter (fun s13 : Int × Int => ⟨[(0, SL 5 Dcl.c l), (5, .own 79), (6, I64 r1), (7, I64 s5.1), (8, I64 s13.1), (9, I64 s13.2)], [VEC 79 65 5 Fld.c s5.2]⟩) ho14 (Le.sub [79] ⟨rfl, rfl, rfl, rfl, rfl, rfl, trivial⟩ rfl) (fun s13 y15 hy16 hr17 => ?_)
          unfold RowsR_L13 at hy16
          iterate 3 refine sc rfl ?_
          iterate 3 (first|refine so rfl ?_|refine sb rfl ?_)
          obtain ⟨g19, hy16⟩ := gT hy16
          refine so rfl (And.intro g19 ?_)
          iterate 4 (first|refine so rfl ?_|refine sb rfl ?_)
          refine so rfl ?_
          refine C_if rfl (fun hb20 => ?_) (fun hb20 => ?_)
          · replace hy16 := cT hb20 hy16
            iterate 5 refine sc rfl ?_
            iterate 2 (first|refine so rfl ?_|refine sb rfl ?_)
            obtain ⟨g21, hy16⟩ := gT hy16
            refine so rfl (And.intro g21 ?_)
            iterate 3 (first|refine so rfl ?_|refine sb rfl ?_)
            obtain ⟨g22, hy16⟩ := gT hy16
            refine so rfl (And.intro g22 ?_)
            iterate 3 (first|refine so rfl ?_|refine sb rfl ?_)
            refine so rfl ?_
            iterate 2 refine sc rfl ?_
            iterate 4 (first|refine so rfl ?_|refine sb rfl ?_)
            refine O_case 48 rfl (fun hb23 => ?_) (fun hb23 => ?_)
            · replace hy16 := cT hb23 hy16
              iterate 3 (first|refine so rfl ?_|refine sb rfl ?_)
              refine O_case 51 rfl (fun hb24 => ?_) (fun hb24 => ?_)
              · replace hy16 := cT hb24 hy16
                iterate 13 (first|refine so rfl ?_|refine sb rfl ?_)
                refine so rfl ?_
                refine C_true rfl rfl ?_
                refine sc rfl ?_
                iterate 2 (first|refine so rfl ?_|refine sb rfl ?_)
                refine so rfl ?_
                refine sc rfl ?_
                iterate 3 (first|refine so rfl ?_|refine sb rfl ?_)
                refine so rfl ?_
                obtain rfl := Option.some.inj hy16
                exact ⟨_, rfl, Le.sub [79] ⟨rfl, rfl, rfl, rfl, rfl, rfl, trivial⟩ rfl⟩
              · replace hy16 := cF hb24 hy16
                iterate 3 (first|refine so rfl ?_|refine sb rfl ?_)
                obtain ⟨g25, hy16⟩ := gT hy16
                refine so rfl (And.intro g25 ?_)
                iterate 3 (first|refine so rfl ?_|refine sb rfl ?_)
                obtain ⟨g26, hy16⟩ := gT hy16
                refine so rfl (And.intro g26 ?_)
                iterate 5 (first|refine so rfl ?_|refine sb rfl ?_)
                refine so rfl ?_
                obtain ⟨m27, hm27, hy16⟩ := bT hy16
                refine C_join ⟨[(0, SL 5 Dcl.c l), (5, .own 79), (6, I64 r1), (7, I64 s5.1), (8, I64 m27), (9, I64 s13.2), (49, I64 s13.1), (50, B (decide (s13.1 < 0))), (51, B false), (52, I64 ((((l.getD (Int.toNat r1) default).fields).getD (Int.toNat s13.2) default).tag)), (53, SL 5 Dcl.c l), (54, I64 r1), (55, .cp [I64 ((l.getD (Int.toNat r1) default).kind), .s ((l.getD (Int.toNat r1) default).name), SL 5 Fld.c ((l.getD (Int.toNat r1) default).fields), SL 5 Mth.c ((l.getD (Int.toNat r1) default).methods), I64 ((l.getD (Int.toNat r1) default).fat)]), (56, .cp [SL 5 Fld.c ((l.getD (Int.toNat r1) default).fields), SL 5 Mth.c ((l.getD (Int.toNat r1) default).methods), I64 ((l.getD (Int.toNat r1) default).fat)]), (57, SL 5 Fld.c ((l.getD (Int.toNat r1) default).fields)), (58, I64 s13.1), (59, .cp [I64 ((((l.getD (Int.toNat r1) default).fields).getD (Int.toNat s13.1) default).tag), .s ((((l.getD (Int.toNat r1) default).fields).getD (Int.toNat s13.1) default).name), I64 (((((l.getD (Int.toNat r1) default).fields).getD (Int.toNat s13.1) default).ty).kind), .s (((((l.getD (Int.toNat r1) default).fields).getD (Int.toNat s13.1) default).ty).name), .sl (((((l.getD (Int.toNat r1) default).fields).getD (Int.toNat s13.1) default).ty).of).length 3 (Ty.rows (((((l.getD (Int.toNat r1) default).fields).getD (Int.toNat s13.1) default).ty).of))]), (60, .cp [I64 ((((l.getD (Int.toNat r1) default).fields).getD (Int.toNat s13.1) default).tag), .s ((((l.getD (Int.toNat r1) default).fields).getD (Int.toNat s13.1) default).name), I64 (((((l.getD (Int.toNat r1) default).fields).getD (Int.toNat s13.1) default).ty).kind), .s (((((l.getD (Int.toNat r1) default).fields).getD (Int.toNat s13.1) default).ty).name), .sl (((((l.getD (Int.toNat r1) default).fields).getD (Int.toNat s13.1) default).ty).of).length 3 (Ty.rows (((((l.getD (Int.toNat r1) default).fields).getD (Int.toNat s13.1) default).ty).of))]), (61, I64 ((((l.getD (Int.toNat r1) default).fields).getD (Int.toNat s13.1) default).tag)), (62, B (decide (((((l.getD (Int.toNat r1) default).fields).getD (Int.toNat s13.2) default).tag) < ((((l.getD (Int.toNat r1) default).fields).getD (Int.toNat s13.1) default).tag)))), (63, B (decide (((((l.getD (Int.toNat r1) default).fields).getD (Int.toNat s13.2) default).tag) < ((((l.getD (Int.toNat r1) default).fields).getD (Int.toNat s13.1) default).tag))))], [VEC 79 65 5 Fld.c s5.2]⟩ ?_ (fun s hm27s => C_le _ hm27s ?_)
                · refine C_if rfl (fun hb28 => ?_) (fun hb28 => ?_)
                  · replace hm27 := cT hb28 hm27
                    refine sc rfl ?_
                    iterate 2 (first|refine so rfl ?_|refine sb rfl ?_)
                    refine so rfl ?_
                    obtain rfl := Option.some.inj hm27
                    exact Le.sub [79] ⟨rfl, rfl, rfl, rfl, rfl, rfl, rfl, rfl, rfl, rfl, rfl, rfl, rfl, rfl, rfl, rfl, rfl, rfl, rfl, rfl, rfl, trivial⟩ rfl
                  · replace hm27 := cF hb28 hm27
                    refine sc rfl ?_
                    obtain rfl := Option.some.inj hm27
                    exact Le.sub [79] ⟨rfl, rfl, rfl, rfl, rfl, rfl, rfl, rfl, rfl, rfl, rfl, rfl, rfl, rfl, rfl, rfl, rfl, rfl, rfl, rfl, rfl, trivial⟩ rfl
                refine sc rfl ?_
                iterate 3 (first|refine so rfl ?_|refine sb rfl ?_)
                refine so rfl ?_
                obtain rfl := Option.some.inj hy16
                exact ⟨_, rfl, Le.sub [79] ⟨rfl, rfl, rfl, rfl, rfl, rfl, trivial⟩ rfl⟩
            · replace hy16 := cF hb23 hy16
              iterate 16 (first|refine so rfl ?_|refine sb rfl ?_)
              refine so rfl ?_
              refine C_false rfl rfl ?_
              iterate 2 refine sc rfl ?_
              iterate 3 (first|refine so rfl ?_|refine sb rfl ?_)
              refine so rfl ?_
              obtain rfl := Option.some.inj hy16
              exact ⟨_, rfl, Le.sub [79] ⟨rfl, rfl, rfl, rfl, rfl, rfl, trivial⟩ rfl⟩
          · replace hy16 := cF hb20 hy16
            refine sc rfl ?_
            obtain rfl := Option.some.inj hy16
            have ho142 := hr17 _ rfl
            subst ho142
            exact ⟨Le.sub [79] ⟨rfl, rfl, rfl, rfl, trivial⟩ rfl, trivial⟩
        refine C_le ⟨[(0, SL 5 Dcl.c l), (5, .own 79), (6, I64 r1), (8, I64 o14)], [VEC 79 65 5 Fld.c s5.2]⟩ hs ?_
        iterate 3 refine sc rfl ?_
        iterate 2 (first|refine so rfl ?_|refine sb rfl ?_)
        refine so rfl ?_
        refine C_if rfl (fun hb29 => ?_) (fun hb29 => ?_)
        · replace hy8 := cT hb29 hy8
          iterate 2 refine sc rfl ?_
          iterate 2 (first|refine so rfl ?_|refine sb rfl ?_)
          refine so rfl ?_
          refine C_le _ (Le.freezeL 4 rfl rfl) ?_
          refine sc rfl ?_
          obtain rfl := Option.some.inj hy8
          have ho62 := hr9 _ rfl
          subst ho62
          obtain rfl := Option.some.inj h
          exact ⟨_, rfl, rfl, rfl⟩
        · replace hy8 := cF hb29 hy8
          iterate 3 refine sc rfl ?_
          iterate 3 (first|refine so rfl ?_|refine sb rfl ?_)
          obtain ⟨g30, hy8⟩ := gT hy8
          refine so rfl (And.intro g30 ?_)
          iterate 3 (first|refine so rfl ?_|refine sb rfl ?_)
          obtain ⟨g31, hy8⟩ := gT hy8
          refine so rfl (And.intro g31 ?_)
          first|refine so rfl ?_|refine sb rfl ?_
          refine sb rfl ?_
          obtain ⟨g32, hy8⟩ := gT hy8
          refine O_push (by_ := 72) Fld.c s5.2 (⟨(((l.getD (Int.toNat r1) default).fields).getD (Int.toNat o14) default).tag, (((l.getD (Int.toNat r1) default).fields).getD (Int.toNat o14) default).name, ((((l.getD (Int.toNat r1) default).fields).getD (Int.toNat o14) default).ty)⟩ : Fld) [(0, SL 5 Dcl.c l), (6, I64 r1), (8, I64 o14)] rfl rfl rfl rfl rfl rfl rfl rfl rfl rfl ⟨rfl, rfl, rfl, trivial⟩ rfl rfl (by omega) (by simp only [maxLen]; omega) ?_
          first|refine so rfl ?_|refine sb rfl ?_
          refine so rfl ?_
          refine sc rfl ?_
          iterate 2 (first|refine so rfl ?_|refine sb rfl ?_)
          obtain ⟨g33, hy8⟩ := gT hy8
          refine so rfl (And.intro g33 ?_)
          iterate 3 (first|refine so rfl ?_|refine sb rfl ?_)
          obtain ⟨g34, hy8⟩ := gT hy8
          refine so rfl (And.intro g34 ?_)
          iterate 3 (first|refine so rfl ?_|refine sb rfl ?_)
          refine so rfl ?_
          obtain rfl := Option.some.inj hy8
          exact ⟨_, rfl, Le.sub [79] ⟨rfl, rfl, rfl, rfl, trivial⟩ rfl⟩
      · replace hy8 := cF hb12 hy8
        refine sc rfl ?_
        obtain rfl := Option.some.inj hy8
        have ho62 := hr9 _ rfl
        subst ho62
        exact ⟨Le.sub [79] ⟨rfl, trivial⟩ rfl, ⟨_, rfl⟩⟩
    obtain ⟨b10, rfl⟩ := hp
    refine C_le ⟨[(5, .own 79)], [VEC 79 65 5 Fld.c b10]⟩ hs ?_
    iterate 2 refine sc rfl ?_
    iterate 2 (first|refine so rfl ?_|refine sb rfl ?_)
    refine so rfl ?_
    refine C_le _ (Le.freezeL 4 rfl rfl) ?_
    refine sc rfl ?_
    obtain rfl := Option.some.inj h
    exact ⟨_, rfl, rfl, rfl⟩
end Go.Proofs

namespace Go.Proofs
open Go.Sy Go.Lib

def fstE (l : List Dcl) : Nat → List (List UInt8 × AV)
  | 0 => []
  | k + 1 => match lookE (l.getD k default).name (fstE l k) with
    | none => fstE l k ++ [((l.getD k default).name, I64 (k : Nat))]
    | some _ => fstE l k

def fndL (nm : List UInt8) : List Dcl → Option Nat
  | [] => none
  | d :: l => if d.name = nm then some 0 else (fndL nm l).map (· + 1)

theorem lookE_app {α : Type} [DecidableEq α] (k : α) : ∀ (es es2 : List (α × AV)), lookE k (es ++ es2) = (lookE k es).or (lookE k es2)
  | [], es2 => by simp [lookE]
  | (j, x) :: es, es2 => by
    simp only [List.cons_append, lookE]
    split
    · simp
    · exact lookE_app k es es2

theorem fndL_app (nm : List UInt8) : ∀ (l l2 : List Dcl), fndL nm (l ++ l2) = (fndL nm l).or ((fndL nm l2).map (· + l.length))
  | [], l2 => by simp [fndL]
  | d :: l, l2 => by
    simp only [List.cons_append, fndL]
    split
    · simp
    · rw [fndL_app nm l l2]
      cases fndL nm l with
      | some i => simp
      | none =>
        cases fndL nm l2 with
        | none => simp
        | some j => simp; omega

theorem fstE_look (l : List Dcl) (nm : List UInt8) : ∀ k, k ≤ l.length → lookE nm (fstE l k) = (fndL nm (l.take k)).map fun j => I64 (j : Nat)
  | 0, _ => by simp [fstE, lookE, fndL]
  | k + 1, hk => by
    have ih := fstE_look l nm k (by omega)
    have hkl : k < l.length := by omega
    have hg : l.getD k default = l[k] := by rw [List.getD_eq_getElem?_getD]; simp [hkl]
    rw [List.take_succ_eq_append_getElem hkl, fndL_app]
    simp only [fstE, hg]
    have ih2 := fstE_look l l[k].name k (by omega)
    cases hx : lookE l[k].name (fstE l k) with
    | none =>
      simp only []
      rw [lookE_app, ih]
      cases fndL nm (l.take k) with
      | some j => simp
      | none =>
        simp only [lookE, fndL]
        by_cases hn : l[k].name = nm
        · simp [hn, Nat.min_eq_left (Nat.le_of_lt hkl)]
        · simp [hn]
    | some y =>
      simp only []
      rw [ih]
      cases hf : fndL nm (l.take k) with
      | some j => simp
      | none =>
        by_cases hn : l[k].name = nm
        · rw [hx, hn, hf] at ih2; simp at ih2
        · simp [fndL, hn]

def tabV (l : List Dcl) : AV := .cp [mapE S (fstE l l.length), .sl l.length 1 (fun i => [I64 (l.getD i default).kind])]

noncomputable abbrev sK : Key Tryz.prog 9 (List UInt8) := strKey Tryz.underlying9

theorem sameBits_str (k : List UInt8) : Instr.sameBits 10000 (S k) (S k) = true := by
  show Instr.sameBits (9999 + 1) (.string ⟨k.toArray⟩) (.string ⟨k.toArray⟩) = true
  simp only [Instr.sameBits]
  show (k.toArray == k.toArray) = true
  simp

abbrev kinds (l : List Dcl) (k : Nat) : List AV := (l.take k).map fun d => I64 d.kind
abbrev tbA (bT mb : Nat) (h : Value) : Abs := boxA bT 300 [.v (.map (some mb)), .v h]

theorem Of_w (l : List Dcl) (hl : l.length ≤ 1000) : FnP Tryz.prog 118 [SL 5 Dcl.c l] (· = tabV l) := by
  refine FnP.intro Tryz.tabOK Tryz.wide_ Tryz.func118 rfl (by decide) rfl (fun X => ?_)
  repeat (first|refine sc rfl ?_|refine so rfl ?_|refine sb rfl ?_)
  refine O_makeMap S rfl (fun mb => ?_)
  repeat (first|refine sc rfl ?_|refine so rfl ?_|refine sb rfl ?_)
  refine C_absb 3 rfl rfl rfl (fun bT => ?_)
  refine C_le _ (Le.addAbs (slO (.slice none 0 0) 3 1 (kinds l 0)) rfl (fun _ _ => ⟨0, rfl, .inl ⟨rfl, rfl⟩⟩)) ?_
  refine C_loop (fun q : Nat × Value => ⟨[(0, SL 5 Dcl.c l), (3, PT bT 0), (11, SL 5 Dcl.c l), (12, I64 (l.length : Nat)), (13, I64 (q.1 : Nat))], [.abs (tbA bT mb q.2), .abs (slO q.2 3 1 (kinds l q.1)), .abs (mapA S (some mb) (fstE l q.1))]⟩)
    (fun q => q.1 ≤ l.length) (fun q => l.length - q.1) (0, .slice none 0 0) (Nat.zero_le _) (Le.perm [] ⟨rfl, rfl, rfl, rfl, rfl, trivial⟩ (by exact pickA_perm (is := [1, 0, 0]) (As := [_, _, _]) rfl)) ?_
  rintro ⟨i, h⟩ hi
  simp only [] at hi
  repeat (first|refine sc rfl ?_|refine so rfl ?_|refine sb rfl ?_)
  refine C_if rfl (fun h1 => ?_) (fun h1 => ?_) <;> simp only [decide_eq_true_eq, decide_eq_false_iff_not] at h1
  · have hil : i < l.length := by omega
    have hlk := fstE_look l (l.getD i default).name i hi
    repeat (first|refine sc rfl ?_|refine so rfl ?_|refine sb rfl ?_)
    refine ⟨by simp only []; omega, ?_⟩
    repeat (first|refine sc rfl ?_|refine so rfl ?_|refine sb rfl ?_)
    have hgl : l.getD i default = l[i] := by rw [List.getD_eq_getElem?_getD]; simp [hil]
    have hkk : kinds l i ++ [I64 (l.getD i default).kind] = kinds l (i + 1) := by
      rw [kinds, kinds, List.take_succ_eq_append_getElem hil, List.map_append, hgl]; rfl
    have hkl : (kinds l i).length = i := by rw [kinds, List.length_map, List.length_take]; omega
    refine C_drawD rfl (by kernel_rfl) ?_
    repeat (first|refine sd rfl ?_|refine sdb rfl ?_|refine sds rfl ?_)
    refine D_X (.v (.map (some mb))) (X_loadP 1 (reads_box 0) rfl rfl rfl rfl rfl rfl) ?_
    repeat (first|refine sd rfl ?_|refine sdb rfl ?_|refine sds rfl ?_)
    refine D_X (lookAV true (lookE (l.getD i default).name (fstE l i)) (I64 0)) (X_lookS 3 sK Tryz.underlying298 rfl rfl (fun e => by simp only [Rep]) rfl (fun e v h => kS e h) rfl rfl rfl rfl rfl) ?_
    have hstep : ∀ y, lookE (l.getD i default).name (fstE l i) = some y → ∃ j : Nat, y = I64 (j : Nat) := fun y hy => by
      rw [hlk] at hy
      obtain ⟨j, _, rfl⟩ := Option.map_eq_some_iff.1 hy
      exact ⟨j, rfl⟩
    cases hx : lookE (l.getD i default).name (fstE l i) with
    | none =>
      have hf : fstE l (i + 1) = updE (l.getD i default).name (I64 (i : Nat)) (fstE l i) := by
        rw [updE_new hx]; simp only [fstE, hx]
      simp only [lookAV, cond_true, Option.isSome_none, Option.getD_none]
      repeat (first|refine sd rfl ?_|refine sdb rfl ?_|refine sds rfl ?_)
      repeat (first|refine sc rfl ?_|refine so rfl ?_|refine sb rfl ?_)
      refine C_true rfl rfl ?_
      refine C_drawU 20 7 rfl (by kernel_rfl) (by kernel_rfl) (by kernel_rfl) ?_
      repeat (first|refine sd rfl ?_|refine sdb rfl ?_|refine sds rfl ?_)
      refine D_X (.v (.map (some mb))) (X_loadP 1 (reads_box 0) rfl rfl rfl rfl rfl rfl) ?_
      repeat (first|refine sd rfl ?_|refine sdb rfl ?_|refine sds rfl ?_)
      refine O_Xn (X_updS 3 sK Tryz.underlying298 sameBits_str (fun e v h => kS e h) rfl rfl rfl rfl rfl rfl) ?_
      repeat (first|refine sc rfl ?_|refine so rfl ?_|refine sb rfl ?_)
      refine C_le _ (Le.retell 0 (A' := mapA S (some mb) (fstE l (i + 1))) rfl rfl (fun G w hok => by rw [hf]; exact hok)) ?_
      refine C_le ⟨[(0, SL 5 Dcl.c l), (3, PT bT 0), (5, .bp 5 0), (11, SL 5 Dcl.c l), (12, I64 (l.length : Nat)), (13, I64 (i : Nat))], [.box 5 60 (Dcl.c (l.getD i default)), .abs (tbA bT mb h), .abs (slO h 3 1 (kinds l i)), .abs (mapA S (some mb) (fstE l (i + 1)))]⟩ (Le.pick [1, 1, 1, 0] ⟨rfl, rfl, rfl, rfl, rfl, rfl, trivial⟩ rfl) ?_
      refine C_drawV 20 8 0 37 rfl (by kernel_rfl) (by kernel_rfl) (by kernel_rfl) (by kernel_rfl) ?_
      repeat (first|refine sd rfl ?_|refine sdb rfl ?_|refine sds rfl ?_)
      refine D_X (.v h) (X_loadP 1 (reads_box 1) rfl rfl rfl rfl rfl rfl) ?_
      repeat (first|refine sd rfl ?_|refine sdb rfl ?_|refine sds rfl ?_)
      refine ⟨?_, ?_⟩
      all_goals
        refine O_appendO 2 (x := I64 (l.getD i default).kind) rfl rfl rfl rfl rfl rfl rfl (by rw [hkl]; omega) (by rw [hkl]; simp [maxLen]; omega) (fun v' hv' => ?_)
        obtain ⟨g9, o9, m9, cc9, rfl⟩ := hv'
        rw [hkk]
        repeat (first|refine sc rfl ?_|refine so rfl ?_|refine sb rfl ?_)
        refine O_Xn (X_storeP 2 (writes_box (by show 1 < 2; decide)) rfl rfl rfl rfl rfl rfl rfl) ?_
        repeat (first|refine sc rfl ?_|refine so rfl ?_|refine sb rfl ?_)
        rw [w64 (x := (i : Int) + 1) (by omega) (by omega)]
        refine ⟨(i + 1, HO g9 o9 m9 cc9), by simp only []; omega, by simp only []; omega, Le.pick [0, 0, 1] ⟨rfl, rfl, rfl, rfl, rfl, trivial⟩ rfl⟩
    | some y =>
      obtain ⟨j, rfl⟩ := hstep y hx
      have hf : fstE l (i + 1) = fstE l i := by simp only [fstE, hx]
      simp only [lookAV, cond_true, Option.isSome_some, Option.getD_some]
      repeat (first|refine sd rfl ?_|refine sdb rfl ?_|refine sds rfl ?_)
      repeat (first|refine sc rfl ?_|refine so rfl ?_|refine sb rfl ?_)
      refine C_false rfl rfl ?_
      repeat (first|refine sc rfl ?_|refine so rfl ?_|refine sb rfl ?_)
      refine C_le _ (Le.retell 3 (A' := mapA S (some mb) (fstE l (i + 1))) rfl rfl (fun G w hok => by rw [hf]; exact hok)) ?_
      refine C_le ⟨[(0, SL 5 Dcl.c l), (3, PT bT 0), (5, .bp 5 0), (11, SL 5 Dcl.c l), (12, I64 (l.length : Nat)), (13, I64 (i : Nat))], [.box 5 60 (Dcl.c (l.getD i default)), .abs (tbA bT mb h), .abs (slO h 3 1 (kinds l i)), .abs (mapA S (some mb) (fstE l (i + 1)))]⟩ (Le.pick [1, 1, 1, 0] ⟨rfl, rfl, rfl, rfl, rfl, rfl, trivial⟩ rfl) ?_
      refine C_drawV 20 8 0 37 rfl (by kernel_rfl) (by kernel_rfl) (by kernel_rfl) (by kernel_rfl) ?_
      repeat (first|refine sd rfl ?_|refine sdb rfl ?_|refine sds rfl ?_)
      refine D_X (.v h) (X_loadP 1 (reads_box 1) rfl rfl rfl rfl rfl rfl) ?_
      repeat (first|refine sd rfl ?_|refine sdb rfl ?_|refine sds rfl ?_)
      refine ⟨?_, ?_⟩
      all_goals
        refine O_appendO 2 (x := I64 (l.getD i default).kind) rfl rfl rfl rfl rfl rfl rfl (by rw [hkl]; omega) (by rw [hkl]; simp [maxLen]; omega) (fun v' hv' => ?_)
        obtain ⟨g9, o9, m9, cc9, rfl⟩ := hv'
        rw [hkk]
        repeat (first|refine sc rfl ?_|refine so rfl ?_|refine sb rfl ?_)
        refine O_Xn (X_storeP 2 (writes_box (by show 1 < 2; decide)) rfl rfl rfl rfl rfl rfl rfl) ?_
        repeat (first|refine sc rfl ?_|refine so rfl ?_|refine sb rfl ?_)
        rw [w64 (x := (i : Int) + 1) (by omega) (by omega)]
        refine ⟨(i + 1, HO g9 o9 m9 cc9), by simp only []; omega, by simp only []; omega, Le.pick [0, 0, 1] ⟨rfl, rfl, rfl, rfl, rfl, trivial⟩ rfl⟩
  · obtain rfl : i = l.length := by omega
    have hkl : (kinds l l.length).length = l.length := by rw [kinds, List.length_map, List.length_take]; omega
    refine C_le _ (Le.frMap 2 rfl) ?_
    refine C_le _ (Le.cellA 1 0 0 rfl rfl) ?_
    refine C_le _ (Le.frSlO 1 (m := l.length) (fun i => [I64 (l.getD i default).kind]) rfl (by rw [hkl]; omega) (by decide) (fun i hi => ?_)) ?_
    · have : kinds l l.length = l.map fun d => I64 d.kind := by rw [kinds, List.take_length]
      rw [this, Nat.mul_one, List.drop_eq_getElem_cons (by simpa using hi)]
      simp [List.getD_eq_getElem?_getD, hi]
    refine C_le _ (Le.cellA 1 0 1 rfl rfl) ?_
    refine C_le _ (Le.frBox 0 rfl) ?_
    refine C_le _ (Le.slotA 0 3 rfl rfl) ?_
    repeat (first|refine sc rfl ?_|refine so rfl ?_|refine sb rfl ?_)
    exact ⟨_, rfl, rfl, rfl⟩

theorem fndL_lt {nm : List UInt8} : ∀ {l : List Dcl} {j : Nat}, fndL nm l = some j → j < l.length
  | [], j, h => by simp [fndL] at h
  | d :: l, j, h => by
    simp only [fndL] at h
    split at h
    · cases h; simp
    · obtain ⟨i, hi, rfl⟩ := Option.map_eq_some_iff.1 h
      have := fndL_lt hi
      simp; omega

theorem fstE_all (l : List Dcl) (nm : List UInt8) : lookE nm (fstE l l.length) = (fndL nm l).map fun j => I64 (j : Nat) := by
  rw [fstE_look l nm _ (Nat.le_refl _), List.take_length]

def fndI (nm : List UInt8) (l : List Dcl) : Int := ((fndL nm l).getD 0 : Nat)
def kindL (l : List Dcl) (nm : List UInt8) : Int := match fndL nm l with
  | none => 0
  | some j => (l.getD j default).kind

theorem Find_c (l : List Dcl) (nm : List UInt8) : FnP Tryz.prog 144 [tabV l, .s nm] (· = .tup [I64 (fndI nm l), B (fndL nm l).isSome]) := by
  refine FnP.intro Tryz.tabOK Tryz.wide_ Tryz.func144 rfl (by decide) rfl (fun X => ?_)
  unfold tabV
  repeat (first|refine sc rfl ?_|refine so rfl ?_|refine sb rfl ?_)
  refine O_Xd (X_cpnil Tryz.underlying162 rfl rfl rfl) ?_
  repeat (first|refine sc rfl ?_|refine so rfl ?_|refine sb rfl ?_)
  refine C_false rfl rfl ?_
  repeat (first|refine sc rfl ?_|refine so rfl ?_|refine sb rfl ?_)
  refine O_Xd (X_lookIS (z := I64 0) sK Tryz.underlying298 rfl rfl (fun e => by simp only [Rep]) rfl (fun e v h => kS e h) rfl rfl rfl rfl) ?_
  rw [fstE_all]
  have e1 : ∀ o : Option Nat, lookAV true (o.map fun j => I64 (j : Nat)) (I64 0) = .tup [I64 (o.getD 0 : Nat), B o.isSome] := fun o => by cases o <;> rfl
  rw [e1]
  repeat (first|refine sc rfl ?_|refine so rfl ?_|refine sb rfl ?_)
  exact ⟨_, rfl, rfl, rfl⟩

theorem Kind_c (l : List Dcl) (nm : List UInt8) : FnP Tryz.prog 131 [tabV l, .s nm] (· = I64 (kindL l nm)) := by
  refine FnP.intro Tryz.tabOK Tryz.wide_ Tryz.func131 rfl (by decide) rfl (fun X => ?_)
  have hF := Find_c l nm
  unfold tabV at hF ⊢
  repeat (first|refine sc rfl ?_|refine so rfl ?_|refine sb rfl ?_)
  refine O_call hF (by rfl) (by rfl) (by rfl) (by rfl) (fun r hr => ?_)
  subst hr
  repeat (first|refine sc rfl ?_|refine so rfl ?_|refine sb rfl ?_)
  unfold kindL
  cases hf : fndL nm l with
  | none =>
    refine C_true rfl rfl ?_
    repeat (first|refine sc rfl ?_|refine so rfl ?_|refine sb rfl ?_)
    exact ⟨_, rfl, rfl, rfl⟩
  | some j =>
    have hj := fndL_lt hf
    have hi : fndI nm l = (j : Nat) := by simp [fndI, hf]
    rw [hi]
    refine C_false rfl rfl ?_
    repeat (first|refine sc rfl ?_|refine so rfl ?_|refine sb rfl ?_)
    refine ⟨by omega, ?_⟩
    repeat (first|refine sc rfl ?_|refine so rfl ?_|refine sb rfl ?_)
    exact ⟨_, rfl, rfl, rfl⟩
end Go.Proofs

namespace Go.Proofs
open Go.Sy Go.Lib

noncomputable def Arity_F (k : Int) : Option (Int) :=
  Option.bind (α := Bool) (cond (k == 1) (some (k == 1)) (cond (k == 2) (some (k == 2)) (cond (k == 3) (some (k == 3)) (cond (k == 4) (some (k == 4)) (cond (k == 5) (some (k == 5)) (some (k == 6))))))) (fun m1 => cond m1 (some 0) (Option.bind (α := Bool) (cond (k == 7) (some (k == 7)) (some (k == 9))) (fun m8 => cond m8 (some 1) (cond (k == 8) (some 2) (some (-1))))))
theorem Arity_w (k : Int) (r : Int) (h : Arity_F k = some r) : FnP Tryz.prog 280 [I64 k] (· = I64 r) := by
  unfold Arity_F at h
  refine FnP.intro Tryz.tabOK Tryz.wide_ Tryz.func280 rfl (by decide) rfl (fun X => ?_)
  iterate 2 refine sc rfl ?_
  first|refine so rfl ?_|refine sb rfl ?_
  refine so rfl ?_
  iterate 3 refine sc rfl ?_
  first|refine so rfl ?_|refine sb rfl ?_
  refine so rfl ?_
  iterate 4 refine sc rfl ?_
  iterate 2 (first|refine so rfl ?_|refine sb rfl ?_)
  refine so rfl ?_
  obtain ⟨m1, hm1, h⟩ := bT h
  refine C_join ⟨[(3, I64 k), (4, B m1)], []⟩ ?_ (fun s hm1s => C_le _ hm1s ?_)
  · refine C_if rfl (fun hb2 => ?_) (fun hb2 => ?_)
    · replace hm1 := cT hb2 hm1
      refine sc rfl ?_
      obtain rfl := Option.some.inj hm1
      exact Le.sub [] ⟨rfl, rfl, trivial⟩ rfl
    · replace hm1 := cF hb2 hm1
      iterate 2 refine sc rfl ?_
      iterate 2 (first|refine so rfl ?_|refine sb rfl ?_)
      refine so rfl ?_
      refine C_if rfl (fun hb3 => ?_) (fun hb3 => ?_)
      · replace hm1 := cT hb3 hm1
        refine sc rfl ?_
        obtain rfl := Option.some.inj hm1
        exact Le.sub [] ⟨rfl, rfl, trivial⟩ rfl
      · replace hm1 := cF hb3 hm1
        iterate 2 refine sc rfl ?_
        iterate 2 (first|refine so rfl ?_|refine sb rfl ?_)
        refine so rfl ?_
        refine C_if rfl (fun hb4 => ?_) (fun hb4 => ?_)
        · replace hm1 := cT hb4 hm1
          refine sc rfl ?_
          obtain rfl := Option.some.inj hm1
          exact Le.sub [] ⟨rfl, rfl, trivial⟩ rfl
        · replace hm1 := cF hb4 hm1
          iterate 2 refine sc rfl ?_
          iterate 2 (first|refine so rfl ?_|refine sb rfl ?_)
          refine so rfl ?_
          refine C_if rfl (fun hb5 => ?_) (fun hb5 => ?_)
          · replace hm1 := cT hb5 hm1
            refine sc rfl ?_
            obtain rfl := Option.some.inj hm1
            exact Le.sub [] ⟨rfl, rfl, trivial⟩ rfl
          · replace hm1 := cF hb5 hm1
            iterate 2 refine sc rfl ?_
            iterate 2 (first|refine so rfl ?_|refine sb rfl ?_)
            refine so rfl ?_
            refine C_if rfl (fun hb6 => ?_) (fun hb6 => ?_)
            · replace hm1 := cT hb6 hm1
              refine sc rfl ?_
              obtain rfl := Option.some.inj hm1
              exact Le.sub [] ⟨rfl, rfl, trivial⟩ rfl
            · replace hm1 := cF hb6 hm1
              refine sc rfl ?_
              iterate 2 (first|refine so rfl ?_|refine sb rfl ?_)
              refine so rfl ?_
              obtain rfl := Option.some.inj hm1
              exact Le.sub [] ⟨rfl, rfl, trivial⟩ rfl
  refine C_if rfl (fun hb7 => ?_) (fun hb7 => ?_)
  · replace h := cT hb7 h
    iterate 2 refine sc rfl ?_
    first|refine so rfl ?_|refine sb rfl ?_
    refine so rfl ?_
    refine sc rfl ?_
    obtain rfl := Option.some.inj h
    exact ⟨_, rfl, rfl, rfl⟩
  · replace h := cF hb7 h
    iterate 3 refine sc rfl ?_
    iterate 2 (first|refine so rfl ?_|refine sb rfl ?_)
    refine so rfl ?_
    obtain ⟨m8, hm8, h⟩ := bT h
    refine C_join ⟨[(3, I64 k), (11, B m8)], []⟩ ?_ (fun s hm8s => C_le _ hm8s ?_)
    · refine C_if rfl (fun hb9 => ?_) (fun hb9 => ?_)
      · replace hm8 := cT hb9 hm8
        refine sc rfl ?_
        obtain rfl := Option.some.inj hm8
        exact Le.sub [] ⟨rfl, rfl, trivial⟩ rfl
      · replace hm8 := cF hb9 hm8
        refine sc rfl ?_
        iterate 2 (first|refine so rfl ?_|refine sb rfl ?_)
        refine so rfl ?_
        obtain rfl := Option.some.inj hm8
        exact Le.sub [] ⟨rfl, rfl, trivial⟩ rfl
    refine C_if rfl (fun hb10 => ?_) (fun hb10 => ?_)
    · replace h := cT hb10 h
      iterate 2 refine sc rfl ?_
      first|refine so rfl ?_|refine sb rfl ?_
      refine so rfl ?_
      refine sc rfl ?_
      obtain rfl := Option.some.inj h
      exact ⟨_, rfl, rfl, rfl⟩
    · replace h := cF hb10 h
      iterate 2 refine sc rfl ?_
      iterate 2 (first|refine so rfl ?_|refine sb rfl ?_)
      refine so rfl ?_
      refine C_if rfl (fun hb11 => ?_) (fun hb11 => ?_)
      · replace h := cT hb11 h
        iterate 2 refine sc rfl ?_
        first|refine so rfl ?_|refine sb rfl ?_
        refine so rfl ?_
        refine sc rfl ?_
        obtain rfl := Option.some.inj h
        exact ⟨_, rfl, rfl, rfl⟩
      · replace h := cF hb11 h
        iterate 3 refine sc rfl ?_
        first|refine so rfl ?_|refine sb rfl ?_
        refine so rfl ?_
        refine sc rfl ?_
        obtain rfl := Option.some.inj h
        exact ⟨_, rfl, rfl, rfl⟩
end Go.Proofs

namespace Go.Proofs
open Go.Sy Go.Lib

noncomputable def arityL (k : Int) : Int := (Arity_F k).getD 0
theorem Arity_c (k : Int) : FnP Tryz.prog 280 [I64 k] (· = I64 (arityL k)) := by
  refine Arity_w k _ ?_
  unfold arityL
  have : (Arity_F k).isSome = true := by
    unfold Arity_F
    cases hb : k == 1 <;> cases hb2 : k == 2 <;> cases hb3 : k == 3 <;> cases hb4 : k == 4 <;> cases hb5 : k == 5 <;> cases hb6 : k == 6 <;> cases hb7 : k == 7 <;> cases hb8 : k == 8 <;> cases hb9 : k == 9 <;> rfl
  obtain ⟨r, hr⟩ := Option.isSome_iff_exists.1 this
  rw [hr]; rfl

def chkV (l : List Dcl) : AV := .cp [SL 5 Dcl.c l, tabV l]

def KeyOK (l : List Dcl) (t : Ty) : Prop := t.kind = 1 ∨ t.kind = 2 ∨ t.kind = 3 ∨ t.kind = 4 ∨ (t.kind = 6 ∧ kindL l t.name = 3)

theorem keyed_c (l : List Dcl) (t : Ty) : FnP Tryz.prog 281 [chkV l, .agg (Ty.c t)] (fun r => ∃ b, r = B b ∧ (b = true ↔ KeyOK l t)) := by
  refine FnP.intro Tryz.tabOK Tryz.wide_ Tryz.func281 rfl (by decide) rfl (fun X => ?_)
  have hK := Kind_c l t.name
  unfold chkV
  repeat (first|refine sc rfl ?_|refine so rfl ?_|refine sb rfl ?_)
  refine C_if rfl (fun h1 => ?_) (fun h1 => ?_) <;> simp only [pL] at h1
  · repeat (first|refine sc rfl ?_|refine so rfl ?_|refine sb rfl ?_)
    refine C_true rfl (by simp [h1]) ?_
    repeat (first|refine sc rfl ?_|refine so rfl ?_|refine sb rfl ?_)
    exact ⟨_, rfl, rfl, true, rfl, ⟨fun _ => .inl h1, fun _ => rfl⟩⟩
  repeat (first|refine sc rfl ?_|refine so rfl ?_|refine sb rfl ?_)
  refine C_if rfl (fun h2 => ?_) (fun h2 => ?_) <;> simp only [pL] at h2
  · repeat (first|refine sc rfl ?_|refine so rfl ?_|refine sb rfl ?_)
    refine C_true rfl (by simp [h2]) ?_
    repeat (first|refine sc rfl ?_|refine so rfl ?_|refine sb rfl ?_)
    exact ⟨_, rfl, rfl, true, rfl, ⟨fun _ => .inr (.inl h2), fun _ => rfl⟩⟩
  repeat (first|refine sc rfl ?_|refine so rfl ?_|refine sb rfl ?_)
  refine C_if rfl (fun h3 => ?_) (fun h3 => ?_) <;> simp only [pL] at h3
  · repeat (first|refine sc rfl ?_|refine so rfl ?_|refine sb rfl ?_)
    refine C_true rfl (by simp [h3]) ?_
    repeat (first|refine sc rfl ?_|refine so rfl ?_|refine sb rfl ?_)
    exact ⟨_, rfl, rfl, true, rfl, ⟨fun _ => .inr (.inr (.inl h3)), fun _ => rfl⟩⟩
  repeat (first|refine sc rfl ?_|refine so rfl ?_|refine sb rfl ?_)
  refine C_if rfl (fun h4 => ?_) (fun h4 => ?_) <;> simp only [pL] at h4
  · repeat (first|refine sc rfl ?_|refine so rfl ?_|refine sb rfl ?_)
    exact ⟨_, rfl, rfl, true, rfl, ⟨fun _ => .inr (.inr (.inr (.inl h4))), fun _ => rfl⟩⟩
  repeat (first|refine sc rfl ?_|refine so rfl ?_|refine sb rfl ?_)
  refine C_if rfl (fun h6 => ?_) (fun h6 => ?_) <;> simp only [pL] at h6
  · repeat (first|refine sc rfl ?_|refine so rfl ?_|refine sb rfl ?_)
    refine C_drawT 20 8 rfl (by kernel_rfl) (by kernel_rfl) ?_
    repeat (first|refine sd rfl ?_|refine sdb rfl ?_|refine sds rfl ?_)
    refine D_call hK rfl rfl rfl rfl ?_
    repeat (first|refine sd rfl ?_|refine sdb rfl ?_|refine sds rfl ?_)
    repeat (first|refine sc rfl ?_|refine so rfl ?_|refine sb rfl ?_)
    exact ⟨_, rfl, rfl, _, rfl, ⟨fun h => .inr (.inr (.inr (.inr ⟨h6, by simpa using h⟩))), fun h => by rcases h with h | h | h | h | h; exact absurd h h1; exact absurd h h2; exact absurd h h3; exact absurd h h4; simpa using h.2⟩⟩
  · repeat (first|refine sc rfl ?_|refine so rfl ?_|refine sb rfl ?_)
    exact ⟨_, rfl, rfl, false, rfl, ⟨fun h => (by cases h), fun h => by rcases h with h | h | h | h | h; exact absurd h h1; exact absurd h h2; exact absurd h h3; exact absurd h h4; exact absurd h.1 h6⟩⟩

inductive TyOK (l : List Dcl) : Bool → Ty → Prop
  | mk {inner : Bool} {t : Ty} : (t.of.length : Int) = arityL t.kind → (t.kind ≠ 6 → t.name = []) → (t.kind = 6 → kindL l t.name = 1 ∨ kindL l t.name = 2 ∨ kindL l t.name = 3) → (t.kind = 9 → inner = false) → (t.kind = 8 → KeyOK l (t.of.getD 0 default)) →
      (∀ i, i < t.of.length → TyOK l true (t.of.getD i default)) → TyOK l inner t

theorem of_lt {t : Ty} {i : Nat} (h : i < t.of.length) : SizeOf.sizeOf (t.of.getD i default) < SizeOf.sizeOf t := by
  have h1 : t.of.getD i default ∈ t.of := by
    rw [List.getD_eq_getElem?_getD, List.getElem?_eq_getElem h]; exact List.getElem_mem h
  have h2 := List.sizeOf_lt_of_mem h1
  have h3 : SizeOf.sizeOf t.of < SizeOf.sizeOf t := by cases t; simp; omega
  omega

theorem arity_le (k : Int) : arityL k ≤ 2 := by
  unfold arityL Arity_F
  cases hb : k == 1 <;> cases hb2 : k == 2 <;> cases hb3 : k == 3 <;> cases hb4 : k == 4 <;> cases hb5 : k == 5 <;> cases hb6 : k == 6 <;> cases hb7 : k == 7 <;> cases hb8 : k == 8 <;> cases hb9 : k == 9 <;> simp
theorem arity_8 : arityL 8 = 2 := rfl

theorem typ_c (l : List Dcl) : ∀ (n : Nat) (t : Ty) (inner : Bool), SizeOf.sizeOf t ≤ n → FnP Tryz.prog 249 [chkV l, .agg (Ty.c t), B inner] (fun r => ∃ e : Int, r = I64 e ∧ (e = 0 ↔ TyOK l inner t))
  | 0, t, inner, h => by cases t; simp at h
  | n + 1, t, inner, hn => by
    refine FnP.intro Tryz.tabOK Tryz.wide_ Tryz.func249 rfl (by decide) rfl (fun X => ?_)
    have hK := Kind_c l t.name
    have hF := Find_c l t.name
    have hA := Arity_c t.kind
    have hY := keyed_c l (t.of.getD 0 default)
    have hrec : ∀ i, i < t.of.length → FnP Tryz.prog 249 [chkV l, .agg (Ty.c (t.of.getD i default)), B true] (fun r => ∃ e : Int, r = I64 e ∧ (e = 0 ↔ TyOK l true (t.of.getD i default))) := fun i hi => typ_c l n _ _ (by have := of_lt hi; omega)
    have hck : chkV l = .cp [SL 5 Dcl.c l, tabV l] := rfl
    rw [hck] at hY hrec ⊢
    have h2 := arity_le t.kind
    by_cases hlen : (t.of.length : Int) = arityL t.kind
    rotate_left
    · repeat (first|refine sc rfl ?_|refine so rfl ?_|refine sb rfl ?_)
      refine C_drawD rfl (by kernel_rfl) ?_
      repeat (first|refine sd rfl ?_|refine sdb rfl ?_|refine sds rfl ?_)
      refine D_call hA rfl rfl rfl rfl ?_
      repeat (first|refine sd rfl ?_|refine sdb rfl ?_|refine sds rfl ?_)
      refine D_case 7 rfl (fun g1 => ?_) (fun g1 => ?_) <;> simp only [pL] at g1
      · repeat (first|refine sd rfl ?_|refine sdb rfl ?_|refine sds rfl ?_)
        repeat (first|refine sc rfl ?_|refine so rfl ?_|refine sb rfl ?_)
        refine C_true rfl rfl ?_
        repeat (first|refine sc rfl ?_|refine so rfl ?_|refine sb rfl ?_)
        exact ⟨_, rfl, rfl, 8, rfl, ⟨fun h => absurd h (by decide), fun h => by obtain ⟨q1, q2, q3, q4, q5, q6⟩ := h; exact absurd q1 hlen⟩⟩
      · exact absurd g1 hlen
    by_cases hk : t.kind = 6
    · repeat (first|refine sc rfl ?_|refine so rfl ?_|refine sb rfl ?_)
      refine C_drawD rfl (by kernel_rfl) ?_
      repeat (first|refine sd rfl ?_|refine sdb rfl ?_|refine sds rfl ?_)
      refine D_call hA rfl rfl rfl rfl ?_
      repeat (first|refine sd rfl ?_|refine sdb rfl ?_|refine sds rfl ?_)
      refine D_case 7 rfl (fun g1 => ?_) (fun g1 => ?_) <;> simp only [pL] at g1
      · exact absurd hlen g1
      repeat (first|refine sd rfl ?_|refine sdb rfl ?_|refine sds rfl ?_)
      refine D_case 11 rfl (fun g2 => ?_) (fun g2 => ?_) <;> simp only [pL] at g2
      · exact absurd hk g2
      repeat (first|refine sd rfl ?_|refine sdb rfl ?_|refine sds rfl ?_)
      repeat (first|refine sc rfl ?_|refine so rfl ?_|refine sb rfl ?_)
      refine C_false rfl rfl ?_
      repeat (first|refine sc rfl ?_|refine so rfl ?_|refine sb rfl ?_)
      refine C_true rfl (by simp [hk]) ?_
      repeat (first|refine sc rfl ?_|refine so rfl ?_|refine sb rfl ?_)
      refine C_drawD rfl (by kernel_rfl) ?_
      repeat (first|refine sd rfl ?_|refine sdb rfl ?_|refine sds rfl ?_)
      refine D_call hK rfl rfl rfl rfl ?_
      repeat (first|refine sd rfl ?_|refine sdb rfl ?_|refine sds rfl ?_)
      repeat (first|refine sc rfl ?_|refine so rfl ?_|refine sb rfl ?_)
      refine C_if rfl (fun k1 => ?_) (fun k1 => ?_) <;> simp only [pL] at k1
      · repeat (first|refine sc rfl ?_|refine so rfl ?_|refine sb rfl ?_)
        refine C_true rfl (by simp [k1]) ?_
        repeat (first|refine sc rfl ?_|refine so rfl ?_|refine sb rfl ?_)
        exact ⟨_, rfl, rfl, 0, rfl, ⟨fun _ => .mk hlen (fun h => absurd hk h) (fun _ => .inl k1) (fun h => by omega) (fun h => by omega) (fun i hi => by
          have : arityL t.kind = 0 := by rw [hk]; rfl
          omega), fun _ => rfl⟩⟩
      repeat (first|refine sc rfl ?_|refine so rfl ?_|refine sb rfl ?_)
      refine C_if rfl (fun k2 => ?_) (fun k2 => ?_) <;> simp only [pL] at k2
      · repeat (first|refine sc rfl ?_|refine so rfl ?_|refine sb rfl ?_)
        refine C_true rfl (by simp [k2]) ?_
        repeat (first|refine sc rfl ?_|refine so rfl ?_|refine sb rfl ?_)
        exact ⟨_, rfl, rfl, 0, rfl, ⟨fun _ => .mk hlen (fun h => absurd hk h) (fun _ => .inr (.inl k2)) (fun h => by omega) (fun h => by omega) (fun i hi => by
          have : arityL t.kind = 0 := by rw [hk]; rfl
          omega), fun _ => rfl⟩⟩
      repeat (first|refine sc rfl ?_|refine so rfl ?_|refine sb rfl ?_)
      refine C_if rfl (fun k3 => ?_) (fun k3 => ?_) <;> simp only [pL] at k3
      · repeat (first|refine sc rfl ?_|refine so rfl ?_|refine sb rfl ?_)
        exact ⟨_, rfl, rfl, 0, rfl, ⟨fun _ => .mk hlen (fun h => absurd hk h) (fun _ => .inr (.inr k3)) (fun h => by omega) (fun h => by omega) (fun i hi => by
          have : arityL t.kind = 0 := by rw [hk]; rfl
          omega), fun _ => rfl⟩⟩
      repeat (first|refine sc rfl ?_|refine so rfl ?_|refine sb rfl ?_)
      refine C_drawD rfl (by kernel_rfl) ?_
      repeat (first|refine sd rfl ?_|refine sdb rfl ?_|refine sds rfl ?_)
      refine D_call hF rfl rfl rfl rfl ?_
      repeat (first|refine sd rfl ?_|refine sdb rfl ?_|refine sds rfl ?_)
      repeat (first|refine sc rfl ?_|refine so rfl ?_|refine sb rfl ?_)
      refine C_if rfl (fun k4 => ?_) (fun k4 => ?_)
      · repeat (first|refine sc rfl ?_|refine so rfl ?_|refine sb rfl ?_)
        exact ⟨_, rfl, rfl, 6, rfl, ⟨fun h => absurd h (by decide), fun h => by obtain ⟨q1, q2, q3, q4, q5, q6⟩ := h; rcases q3 hk with h | h | h; exact absurd h k1; exact absurd h k2; exact absurd h k3⟩⟩
      · repeat (first|refine sc rfl ?_|refine so rfl ?_|refine sb rfl ?_)
        exact ⟨_, rfl, rfl, 8, rfl, ⟨fun h => absurd h (by decide), fun h => by obtain ⟨q1, q2, q3, q4, q5, q6⟩ := h; rcases q3 hk with h | h | h; exact absurd h k1; exact absurd h k2; exact absurd h k3⟩⟩
    by_cases hnm : t.name = []
    rotate_left
    · repeat (first|refine sc rfl ?_|refine so rfl ?_|refine sb rfl ?_)
      refine C_drawD rfl (by kernel_rfl) ?_
      repeat (first|refine sd rfl ?_|refine sdb rfl ?_|refine sds rfl ?_)
      refine D_call hA rfl rfl rfl rfl ?_
      repeat (first|refine sd rfl ?_|refine sdb rfl ?_|refine sds rfl ?_)
      refine D_case 7 rfl (fun g1 => ?_) (fun g1 => ?_) <;> simp only [pL] at g1
      · exact absurd hlen g1
      repeat (first|refine sd rfl ?_|refine sdb rfl ?_|refine sds rfl ?_)
      refine D_case 11 rfl (fun g2 => ?_) (fun g2 => ?_) <;> simp only [pL] at g2
      rotate_left
      · exact absurd g2 hk
      repeat (first|refine sd rfl ?_|refine sdb rfl ?_|refine sds rfl ?_)
      repeat (first|refine sc rfl ?_|refine so rfl ?_|refine sb rfl ?_)
      refine C_true rfl (by simp [hnm]) ?_
      repeat (first|refine sc rfl ?_|refine so rfl ?_|refine sb rfl ?_)
      exact ⟨_, rfl, rfl, 8, rfl, ⟨fun h => absurd h (by decide), fun h => by obtain ⟨q1, q2, q3, q4, q5, q6⟩ := h; exact absurd (q2 hk) hnm⟩⟩
    repeat (first|refine sc rfl ?_|refine so rfl ?_|refine sb rfl ?_)
    refine C_drawD rfl (by kernel_rfl) ?_
    repeat (first|refine sd rfl ?_|refine sdb rfl ?_|refine sds rfl ?_)
    refine D_call hA rfl rfl rfl rfl ?_
    repeat (first|refine sd rfl ?_|refine sdb rfl ?_|refine sds rfl ?_)
    refine D_case 7 rfl (fun g1 => ?_) (fun g1 => ?_) <;> simp only [pL] at g1
    · exact absurd hlen g1
    repeat (first|refine sd rfl ?_|refine sdb rfl ?_|refine sds rfl ?_)
    refine D_case 11 rfl (fun g2 => ?_) (fun g2 => ?_) <;> simp only [pL] at g2
    rotate_left
    · exact absurd g2 hk
    repeat (first|refine sd rfl ?_|refine sdb rfl ?_|refine sds rfl ?_)
    repeat (first|refine sc rfl ?_|refine so rfl ?_|refine sb rfl ?_)
    refine C_false rfl (by simp [hnm]) ?_
    repeat (first|refine sc rfl ?_|refine so rfl ?_|refine sb rfl ?_)
    refine C_false rfl (by simp [hk]) ?_
    repeat (first|refine sc rfl ?_|refine so rfl ?_|refine sb rfl ?_)
    refine C_joinE (fun _ : Unit => ⟨[(0, .cp [SL 5 Dcl.c l, tabV l]), (4, .bp 4 0)], [.box 4 63 (Ty.c t)]⟩) (fun _ => (t.kind = 9 → inner = false) ∧ (t.kind = 8 → KeyOK l (t.of.getD 0 default))) ?_ (fun _ s hI hle => C_le _ hle ?_)
    · refine C_if rfl (fun k9 => ?_) (fun k9 => ?_) <;> simp only [pL] at k9
      · repeat (first|refine sc rfl ?_|refine so rfl ?_|refine sb rfl ?_)
        refine C_if rfl (fun k1 => ?_) (fun k1 => ?_)
        · repeat (first|refine sc rfl ?_|refine so rfl ?_|refine sb rfl ?_)
          exact ⟨_, rfl, rfl, 8, rfl, ⟨fun h => absurd h (by decide), fun h => by obtain ⟨q1, q2, q3, q4, q5, q6⟩ := h; rw [q4 k9] at k1; cases k1⟩⟩
        · repeat (first|refine sc rfl ?_|refine so rfl ?_|refine sb rfl ?_)
          exact ⟨(), ⟨fun _ => k1, fun h => by omega⟩, Le.sub [4] ⟨rfl, rfl, trivial⟩ rfl⟩
      · repeat (first|refine sc rfl ?_|refine so rfl ?_|refine sb rfl ?_)
        refine C_if rfl (fun k8 => ?_) (fun k8 => ?_) <;> simp only [pL] at k8
        · have h8 : t.of.length = 2 := by rw [k8, arity_8] at hlen; omega
          iterate 2 refine sc rfl ?_
          refine so rfl ?_
          refine so rfl ?_
          refine so rfl ?_
          refine O_le _ (Le.one 63 (SL 3 Ty.c t.of) rfl (.row (Ty.rows_eq _))) ?_
          repeat (first|refine sc rfl ?_|refine so rfl ?_|refine sb rfl ?_)
          refine ⟨by omega, ?_⟩
          repeat (first|refine sc rfl ?_|refine so rfl ?_|refine sb rfl ?_)
          refine O_call hY (by rfl) (by rfl) (by rfl) (by rfl) (fun r hr => ?_)
          obtain ⟨b, rfl, hb⟩ := hr
          repeat (first|refine sc rfl ?_|refine so rfl ?_|refine sb rfl ?_)
          cases b with
          | true =>
            refine C_false rfl rfl ?_
            repeat (first|refine sc rfl ?_|refine so rfl ?_|refine sb rfl ?_)
            exact ⟨(), ⟨fun h => absurd h k9, fun _ => hb.1 rfl⟩, Le.sub [4] ⟨rfl, rfl, trivial⟩ rfl⟩
          | false =>
            refine C_true rfl rfl ?_
            repeat (first|refine sc rfl ?_|refine so rfl ?_|refine sb rfl ?_)
            exact ⟨_, rfl, rfl, 8, rfl, ⟨fun h => absurd h (by decide), fun h => by obtain ⟨q1, q2, q3, q4, q5, q6⟩ := h; have := hb.2 (q5 k8); cases this⟩⟩
        · repeat (first|refine sc rfl ?_|refine so rfl ?_|refine sb rfl ?_)
          exact ⟨(), ⟨fun h => absurd h k9, fun h => absurd h k8⟩, Le.sub [4] ⟨rfl, rfl, trivial⟩ rfl⟩
    repeat (first|refine sc rfl ?_|refine so rfl ?_|refine sb rfl ?_)
    refine C_loop (fun i : Nat => ⟨[(0, .cp [SL 5 Dcl.c l, tabV l]), (69, SL 3 Ty.c t.of), (70, I64 (t.of.length : Nat)), (71, I64 (i : Nat))], []⟩) (fun i => i ≤ t.of.length ∧ ∀ j, j < i → TyOK l true (t.of.getD j default)) (fun i => t.of.length - i) 0 ⟨Nat.zero_le _, fun j hj => absurd hj (Nat.not_lt_zero _)⟩ ((Le.one 69 (SL 3 Ty.c t.of) rfl (.row (Ty.rows_eq _))).trans (Le.sub [] ⟨rfl, rfl, rfl, rfl, trivial⟩ rfl)) ?_
    rintro i ⟨hi, hall⟩
    repeat (first|refine sc rfl ?_|refine so rfl ?_|refine sb rfl ?_)
    refine C_if rfl (fun m1 => ?_) (fun m1 => ?_) <;> simp only [pL] at m1
    · have hil : i < t.of.length := by omega
      repeat (first|refine sc rfl ?_|refine so rfl ?_|refine sb rfl ?_)
      refine ⟨by omega, ?_⟩
      repeat (first|refine sc rfl ?_|refine so rfl ?_|refine sb rfl ?_)
      refine O_call (hrec i hil) (by rfl) (by rfl) (by rfl) (by rfl) (fun r hr => ?_)
      obtain ⟨e, rfl, he⟩ := hr
      repeat (first|refine sc rfl ?_|refine so rfl ?_|refine sb rfl ?_)
      refine C_if rfl (fun m2 => ?_) (fun m2 => ?_) <;> simp only [pL] at m2
      · repeat (first|refine sc rfl ?_|refine so rfl ?_|refine sb rfl ?_)
        exact ⟨_, rfl, rfl, e, rfl, ⟨fun h => absurd h m2, fun h => by obtain ⟨q1, q2, q3, q4, q5, q6⟩ := h; exact absurd (he.2 (q6 i hil)) m2⟩⟩
      · repeat (first|refine sc rfl ?_|refine so rfl ?_|refine sb rfl ?_)
        rw [w64 (x := (i : Int) + 1) (by omega) (by omega)]
        refine ⟨i + 1, ⟨hil, fun j hj => ?_⟩, by omega, Le.sub [] ⟨rfl, rfl, rfl, rfl, trivial⟩ rfl⟩
        rcases Nat.lt_or_ge j i with h | h
        · exact hall j h
        · obtain rfl : j = i := by omega
          exact he.1 m2
    · obtain rfl : i = t.of.length := by omega
      repeat (first|refine sc rfl ?_|refine so rfl ?_|refine sb rfl ?_)
      exact ⟨_, rfl, rfl, 0, rfl, ⟨fun _ => .mk hlen (fun _ => hnm) (fun h => absurd h hk) hI.1 hI.2 hall, fun _ => rfl⟩⟩
end Go.Proofs
