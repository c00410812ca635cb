/- The table of the types of the great seat, as the walk wants it. -/
import Derived.Test.YtpkbclagmkgpkaaGreatDoorChecked
import Derived.KernelRfl
import Derived.Test.YtpkbclagmkgpkaaGreatDoorQ5
import Derived.Test.YtpkbclagmkgpkaaGreatDoorQ3
import Derived.Test.YtpkbclagmkgpkaaGreatDoorQ4
import Derived.HandedShaped
import Derived.SizedLaws
import Derived.PinnedBridge
import Derived.Lay
import Derived.Test.YtpkbclagmkgpkaaGreatDoorRows
import Derived.Test.YtpkbclagmkgpkaaGreatDoorCards
import Derived.Test.YtpkbclagmkgpkaaGreatDoorTie
set_option linter.unusedSimpArgs false
set_option linter.unusedVariables false
namespace Go.Proofs
open Go.Sy
def Tryz.tabF : Tab := fun t =>
 (bif Nat.blt t 364 then
 (bif Nat.blt t 180 then
  (bif Nat.blt t 90 then
   (bif Nat.blt t 44 then
    (bif Nat.blt t 21 then
     (bif Nat.blt t 11 then
      (bif Nat.blt t 6 then
       (bif Nat.blt t 3 then
        (bif Nat.blt t 2 then
         (bif Nat.beq t 1 then some ⟨1, 8, false, [.nilFunc], .other⟩ else none)
         else some ⟨1, 8, false, [.int .i64 0], .int .i64⟩)
        else (bif Nat.blt t 4 then
         some ⟨1, 8, false, [.int .i64 0], .int .i64⟩
         else (bif Nat.blt t 5 then
          some ⟨1, 1, false, [.bool false], .bool⟩
          else some ⟨1, 1, false, [.int .u8 0], .int .u8⟩)))
       else (bif Nat.blt t 8 then
        (bif Nat.blt t 7 then
         some ⟨1, 1, false, [.int .u8 0], .int .u8⟩
         else some ⟨4, 24, true, [.int .i64 0, .int .i64 0, .bool false, .int .u8 0], .struct [(0, 1), (1, 1), (2, 1), (3, 1)]⟩)
        else (bif Nat.blt t 9 then
         some ⟨4, 24, true, [.int .i64 0, .int .i64 0, .bool false, .int .u8 0], .struct [(0, 1), (1, 1), (2, 1), (3, 1)]⟩
         else (bif Nat.blt t 10 then
          some ⟨1, 16, false, [.string ⟨#[]⟩], .str⟩
          else some ⟨1, 16, false, [.string ⟨#[]⟩], .str⟩))))
      else (bif Nat.blt t 16 then
       (bif Nat.blt t 13 then
        (bif Nat.blt t 12 then
         some ⟨1, 16, false, [.string ⟨#[]⟩], .str⟩
         else some ⟨1, 8, false, [.int .u64 0], .int .u64⟩)
        else (bif Nat.blt t 14 then
         some ⟨2, 24, true, [.string ⟨#[]⟩, .int .u64 0], .struct [(0, 1), (1, 1)]⟩
         else (bif Nat.blt t 15 then
          some ⟨2, 24, true, [.string ⟨#[]⟩, .int .u64 0], .struct [(0, 1), (1, 1)]⟩
          else some ⟨1, 8, false, [.pointer none], .other⟩)))
       else (bif Nat.blt t 18 then
        (bif Nat.blt t 17 then
         some ⟨1, 8, false, [.pointer none], .other⟩
         else some ⟨1, 8, false, [.pointer none], .other⟩)
        else (bif Nat.blt t 19 then
         some ⟨1, 8, true, [.pointer none], .struct [(0, 1)]⟩
         else (bif Nat.blt t 20 then
          some ⟨1, 8, true, [.pointer none], .struct [(0, 1)]⟩
          else some ⟨1, 16, false, [.nilIface], .other⟩)))))
     else (bif Nat.blt t 31 then
      (bif Nat.blt t 26 then
       (bif Nat.blt t 23 then
        (bif Nat.blt t 22 then
         some ⟨1, 4, false, [.int .i32 0], .int .i32⟩
         else some ⟨1, 8, false, [.nilFunc], .other⟩)
        else (bif Nat.blt t 24 then
         some ⟨1, 8, false, [.nilFunc], .other⟩
         else (bif Nat.blt t 25 then
          some ⟨1, 8, false, [.int .u64 0], .int .u64⟩
          else some ⟨1, 24, false, [.slice none 0 0], .slice 54⟩)))
       else (bif Nat.blt t 28 then
        (bif Nat.blt t 27 then
         some ⟨1, 24, false, [.slice none 0 0], .slice 3⟩
         else some ⟨3, 56, true, [.int .u64 0, .slice none 0 0, .slice none 0 0], .struct [(0, 1), (1, 1), (2, 1)]⟩)
        else (bif Nat.blt t 29 then
         some ⟨3, 56, true, [.int .u64 0, .slice none 0 0, .slice none 0 0], .struct [(0, 1), (1, 1), (2, 1)]⟩
         else (bif Nat.blt t 30 then
          some ⟨1, 8, false, [.int .i64 0], .int .i64⟩
          else some ⟨2, 16, true, [.int .i64 0, .int .i64 0], .struct [(0, 1), (1, 1)]⟩))))
      else (bif Nat.blt t 38 then
       (bif Nat.blt t 34 then
        (bif Nat.blt t 33 then
         (bif Nat.beq t 31 then some ⟨2, 16, true, [.int .i64 0, .int .i64 0], .struct [(0, 1), (1, 1)]⟩ else none)
         else some ⟨1, 8, false, [.nilFunc], .other⟩)
        else (bif Nat.blt t 35 then
         some ⟨4, 64, true, [.int .u64 0, .bool false, .slice none 0 0, .slice none 0 0], .struct [(0, 1), (1, 1), (2, 1), (3, 1)]⟩
         else (bif Nat.blt t 37 then
          (bif Nat.beq t 35 then some ⟨4, 64, true, [.int .u64 0, .bool false, .slice none 0 0, .slice none 0 0], .struct [(0, 1), (1, 1), (2, 1), (3, 1)]⟩ else none)
          else some ⟨1, 8, false, [.nilFunc], .other⟩)))
       else (bif Nat.blt t 41 then
        (bif Nat.blt t 39 then
         some ⟨1, 8, false, [.nilFunc], .other⟩
         else (bif Nat.blt t 40 then
          some ⟨1, 8, false, [.nilFunc], .other⟩
          else some ⟨1, 24, false, [.slice none 0 0], .slice 9⟩))
        else (bif Nat.blt t 42 then
         some ⟨1, 8, false, [.nilFunc], .other⟩
         else (bif Nat.blt t 43 then
          some ⟨1, 24, false, [.slice none 0 0], .slice 5⟩
          else some ⟨1, 8, false, [.nilFunc], .other⟩))))))
    else (bif Nat.blt t 66 then
     (bif Nat.blt t 55 then
      (bif Nat.blt t 49 then
       (bif Nat.blt t 46 then
        (bif Nat.blt t 45 then
         some ⟨1, 8, false, [.nilFunc], .other⟩
         else some ⟨1, 8, false, [.nilFunc], .other⟩)
        else (bif Nat.blt t 47 then
         some ⟨1, 8, false, [.nilFunc], .other⟩
         else (bif Nat.blt t 48 then
          some ⟨1, 8, false, [.pointer none], .other⟩
          else some ⟨2, 32, true, [.slice none 0 0, .bool false], .struct [(0, 1), (1, 1)]⟩)))
       else (bif Nat.blt t 52 then
        (bif Nat.blt t 50 then
         some ⟨2, 32, true, [.slice none 0 0, .bool false], .struct [(0, 1), (1, 1)]⟩
         else (bif Nat.beq t 50 then some ⟨1, 8, false, [.nilFunc], .other⟩ else none))
        else (bif Nat.blt t 53 then
         some ⟨1, 8, false, [.nilFunc], .other⟩
         else (bif Nat.blt t 54 then
          some ⟨4, 40, true, [.int .i64 0, .int .i64 0, .int .u64 0, .string ⟨#[]⟩], .struct [(0, 1), (1, 1), (2, 1), (3, 1)]⟩
          else some ⟨4, 40, true, [.int .i64 0, .int .i64 0, .int .u64 0, .string ⟨#[]⟩], .struct [(0, 1), (1, 1), (2, 1), (3, 1)]⟩))))
      else (bif Nat.blt t 60 then
       (bif Nat.blt t 57 then
        (bif Nat.blt t 56 then
         some ⟨1, 8, false, [.nilFunc], .other⟩
         else some ⟨1, 8, false, [.nilFunc], .other⟩)
        else (bif Nat.blt t 58 then
         some ⟨1, 8, false, [.nilFunc], .other⟩
         else (bif Nat.blt t 59 then
          some ⟨1, 8, false, [.pointer none], .other⟩
          else some ⟨2, 32, true, [.pointer none, .slice none 0 0], .struct [(0, 1), (1, 1)]⟩)))
       else (bif Nat.blt t 62 then
        (bif Nat.blt t 61 then
         some ⟨2, 32, true, [.pointer none, .slice none 0 0], .struct [(0, 1), (1, 1)]⟩
         else some ⟨1, 8, false, [.pointer none], .other⟩)
        else (bif Nat.blt t 63 then
         some ⟨1, 8, false, [.nilFunc], .other⟩
         else (bif Nat.blt t 64 then
          some ⟨1, 16, false, [.nilIface], .other⟩
          else (bif Nat.beq t 64 then some ⟨1, 16, false, [.nilIface], .other⟩ else none))))))
     else (bif Nat.blt t 78 then
      (bif Nat.blt t 71 then
       (bif Nat.blt t 68 then
        (bif Nat.blt t 67 then
         some ⟨1, 8, false, [.nilFunc], .other⟩
         else some ⟨1, 8, false, [.nilFunc], .other⟩)
        else (bif Nat.blt t 69 then
         some ⟨1, 8, false, [.pointer none], .other⟩
         else (bif Nat.blt t 70 then
          some ⟨1, 8, false, [.nilFunc], .other⟩
          else some ⟨1, 8, false, [.nilFunc], .other⟩)))
       else (bif Nat.blt t 74 then
        (bif Nat.blt t 72 then
         some ⟨1, 8, false, [.pointer none], .other⟩
         else (bif Nat.beq t 72 then some ⟨1, 8, false, [.nilFunc], .other⟩ else none))
        else (bif Nat.blt t 76 then
         (bif Nat.beq t 74 then some ⟨1, 8, false, [.nilFunc], .other⟩ else none)
         else (bif Nat.blt t 77 then
          some ⟨1, 8, false, [.nilFunc], .other⟩
          else some ⟨1, 24, false, [.slice none 0 0], .slice 24⟩))))
      else (bif Nat.blt t 84 then
       (bif Nat.blt t 81 then
        (bif Nat.blt t 79 then
         some ⟨2, 48, true, [.slice none 0 0, .slice none 0 0], .struct [(0, 1), (1, 1)]⟩
         else (bif Nat.beq t 79 then some ⟨2, 48, true, [.slice none 0 0, .slice none 0 0], .struct [(0, 1), (1, 1)]⟩ else none))
        else (bif Nat.blt t 82 then
         some ⟨1, 8, false, [.nilFunc], .other⟩
         else (bif Nat.blt t 83 then
          some ⟨1, 8, false, [.nilFunc], .other⟩
          else some ⟨1, 8, false, [.nilFunc], .other⟩)))
       else (bif Nat.blt t 87 then
        (bif Nat.blt t 85 then
         some ⟨1, 8, false, [.nilFunc], .other⟩
         else (bif Nat.blt t 86 then
          some ⟨1, 8, false, [.pointer none], .other⟩
          else some ⟨1, 8, false, [.nilFunc], .other⟩))
        else (bif Nat.blt t 88 then
         some ⟨1, 8, false, [.pointer none], .other⟩
         else (bif Nat.blt t 89 then
          some ⟨1, 8, false, [.pointer none], .other⟩
          else some ⟨1, 8, false, [.nilFunc], .other⟩)))))))
   else (bif Nat.blt t 134 then
    (bif Nat.blt t 110 then
     (bif Nat.blt t 100 then
      (bif Nat.blt t 95 then
       (bif Nat.blt t 92 then
        (bif Nat.blt t 91 then
         some ⟨9, 72, true, [.int .i64 0, .int .i64 0, .int .i64 0, .int .i64 0, .int .i64 0, .int .i64 0, .int .i64 0, .int .i64 0, .int .i64 0], .struct [(0, 1), (1, 1), (2, 1), (3, 1), (4, 1), (5, 1), (6, 1), (7, 1), (8, 1)]⟩
         else some ⟨9, 72, true, [.int .i64 0, .int .i64 0, .int .i64 0, .int .i64 0, .int .i64 0, .int .i64 0, .int .i64 0, .int .i64 0, .int .i64 0], .struct [(0, 1), (1, 1), (2, 1), (3, 1), (4, 1), (5, 1), (6, 1), (7, 1), (8, 1)]⟩)
        else (bif Nat.blt t 93 then
         some ⟨1, 8, false, [.nilFunc], .other⟩
         else (bif Nat.blt t 94 then
          some ⟨1, 8, false, [.pointer none], .other⟩
          else some ⟨2, 16, true, [.pointer none, .pointer none], .struct [(0, 1), (1, 1)]⟩)))
       else (bif Nat.blt t 97 then
        (bif Nat.blt t 96 then
         some ⟨2, 16, true, [.pointer none, .pointer none], .struct [(0, 1), (1, 1)]⟩
         else some ⟨1, 8, false, [.map none], .other⟩)
        else (bif Nat.blt t 98 then
         some ⟨64, 512, true, [.int .u64 0, .int .u64 0, .int .u64 0, .int .u64 0, .int .u64 0, .int .u64 0, .int .u64 0, .int .u64 0, .int .u64 0, .int .u64 0, .int .u64 0, .int .u64 0, .int .u64 0, .int .u64 0, .int .u64 0, .int .u64 0, .int .u64 0, .int .u64 0, .int .u64 0, .int .u64 0, .int .u64 0, .int .u64 0, .int .u64 0, .int .u64 0, .int .u64 0, .int .u64 0, .int .u64 0, .int .u64 0, .int .u64 0, .int .u64 0, .int .u64 0, .int .u64 0, .int .u64 0, .int .u64 0, .int .u64 0, .int .u64 0, .int .u64 0, .int .u64 0, .int .u64 0, .int .u64 0, .int .u64 0, .int .u64 0, .int .u64 0, .int .u64 0, .int .u64 0, .int .u64 0, .int .u64 0, .int .u64 0, .int .u64 0, .int .u64 0, .int .u64 0, .int .u64 0, .int .u64 0, .int .u64 0, .int .u64 0, .int .u64 0, .int .u64 0, .int .u64 0, .int .u64 0, .int .u64 0, .int .u64 0, .int .u64 0, .int .u64 0, .int .u64 0], .arr 64 24⟩
         else (bif Nat.blt t 99 then
          some ⟨66, 528, true, [.int .u64 0, .int .u64 0, .int .u64 0, .int .u64 0, .int .u64 0, .int .u64 0, .int .u64 0, .int .u64 0, .int .u64 0, .int .u64 0, .int .u64 0, .int .u64 0, .int .u64 0, .int .u64 0, .int .u64 0, .int .u64 0, .int .u64 0, .int .u64 0, .int .u64 0, .int .u64 0, .int .u64 0, .int .u64 0, .int .u64 0, .int .u64 0, .int .u64 0, .int .u64 0, .int .u64 0, .int .u64 0, .int .u64 0, .int .u64 0, .int .u64 0, .int .u64 0, .int .u64 0, .int .u64 0, .int .u64 0, .int .u64 0, .int .u64 0, .int .u64 0, .int .u64 0, .int .u64 0, .int .u64 0, .int .u64 0, .int .u64 0, .int .u64 0, .int .u64 0, .int .u64 0, .int .u64 0, .int .u64 0, .int .u64 0, .int .u64 0, .int .u64 0, .int .u64 0, .int .u64 0, .int .u64 0, .int .u64 0, .int .u64 0, .int .u64 0, .int .u64 0, .int .u64 0, .int .u64 0, .int .u64 0, .int .u64 0, .int .u64 0, .int .u64 0, .int .i64 0, .int .i64 0], .struct [(0, 64), (64, 1), (65, 1)]⟩
          else some ⟨66, 528, true, [.int .u64 0, .int .u64 0, .int .u64 0, .int .u64 0, .int .u64 0, .int .u64 0, .int .u64 0, .int .u64 0, .int .u64 0, .int .u64 0, .int .u64 0, .int .u64 0, .int .u64 0, .int .u64 0, .int .u64 0, .int .u64 0, .int .u64 0, .int .u64 0, .int .u64 0, .int .u64 0, .int .u64 0, .int .u64 0, .int .u64 0, .int .u64 0, .int .u64 0, .int .u64 0, .int .u64 0, .int .u64 0, .int .u64 0, .int .u64 0, .int .u64 0, .int .u64 0, .int .u64 0, .int .u64 0, .int .u64 0, .int .u64 0, .int .u64 0, .int .u64 0, .int .u64 0, .int .u64 0, .int .u64 0, .int .u64 0, .int .u64 0, .int .u64 0, .int .u64 0, .int .u64 0, .int .u64 0, .int .u64 0, .int .u64 0, .int .u64 0, .int .u64 0, .int .u64 0, .int .u64 0, .int .u64 0, .int .u64 0, .int .u64 0, .int .u64 0, .int .u64 0, .int .u64 0, .int .u64 0, .int .u64 0, .int .u64 0, .int .u64 0, .int .u64 0, .int .i64 0, .int .i64 0], .struct [(0, 64), (64, 1), (65, 1)]⟩))))
      else (bif Nat.blt t 105 then
       (bif Nat.blt t 102 then
        (bif Nat.blt t 101 then
         some ⟨1, 24, false, [.slice none 0 0], .slice 252⟩
         else some ⟨1, 24, true, [.slice none 0 0], .struct [(0, 1)]⟩)
        else (bif Nat.blt t 103 then
         some ⟨1, 24, true, [.slice none 0 0], .struct [(0, 1)]⟩
         else (bif Nat.blt t 104 then
          some ⟨1, 8, false, [.map none], .other⟩
          else some ⟨1, 24, false, [.slice none 0 0], .slice 307⟩)))
       else (bif Nat.blt t 107 then
        (bif Nat.blt t 106 then
         some ⟨2, 32, true, [.map none, .slice none 0 0], .struct [(0, 1), (1, 1)]⟩
         else some ⟨2, 32, true, [.map none, .slice none 0 0], .struct [(0, 1), (1, 1)]⟩)
        else (bif Nat.blt t 108 then
         some ⟨1, 24, false, [.slice none 0 0], .slice 193⟩
         else (bif Nat.blt t 109 then
          some ⟨9, 216, true, [.slice none 0 0, .slice none 0 0, .slice none 0 0, .slice none 0 0, .slice none 0 0, .slice none 0 0, .slice none 0 0, .slice none 0 0, .slice none 0 0], .arr 9 107⟩
          else some ⟨11, 248, true, [.map none, .slice none 0 0, .slice none 0 0, .slice none 0 0, .slice none 0 0, .slice none 0 0, .slice none 0 0, .slice none 0 0, .slice none 0 0, .slice none 0 0, .slice none 0 0], .struct [(0, 2), (2, 9)]⟩)))))
     else (bif Nat.blt t 121 then
      (bif Nat.blt t 115 then
       (bif Nat.blt t 112 then
        (bif Nat.blt t 111 then
         some ⟨11, 248, true, [.map none, .slice none 0 0, .slice none 0 0, .slice none 0 0, .slice none 0 0, .slice none 0 0, .slice none 0 0, .slice none 0 0, .slice none 0 0, .slice none 0 0, .slice none 0 0], .struct [(0, 2), (2, 9)]⟩
         else some ⟨1, 8, false, [.map none], .other⟩)
        else (bif Nat.blt t 113 then
         some ⟨1, 8, true, [.map none], .struct [(0, 1)]⟩
         else (bif Nat.blt t 114 then
          some ⟨1, 8, true, [.map none], .struct [(0, 1)]⟩
          else some ⟨82, 832, true, [.pointer none, .int .u64 0, .int .u64 0, .int .u64 0, .int .u64 0, .int .u64 0, .int .u64 0, .int .u64 0, .int .u64 0, .int .u64 0, .int .u64 0, .int .u64 0, .int .u64 0, .int .u64 0, .int .u64 0, .int .u64 0, .int .u64 0, .int .u64 0, .int .u64 0, .int .u64 0, .int .u64 0, .int .u64 0, .int .u64 0, .int .u64 0, .int .u64 0, .int .u64 0, .int .u64 0, .int .u64 0, .int .u64 0, .int .u64 0, .int .u64 0, .int .u64 0, .int .u64 0, .int .u64 0, .int .u64 0, .int .u64 0, .int .u64 0, .int .u64 0, .int .u64 0, .int .u64 0, .int .u64 0, .int .u64 0, .int .u64 0, .int .u64 0, .int .u64 0, .int .u64 0, .int .u64 0, .int .u64 0, .int .u64 0, .int .u64 0, .int .u64 0, .int .u64 0, .int .u64 0, .int .u64 0, .int .u64 0, .int .u64 0, .int .u64 0, .int .u64 0, .int .u64 0, .int .u64 0, .int .u64 0, .int .u64 0, .int .u64 0, .int .u64 0, .int .u64 0, .int .i64 0, .int .i64 0, .slice none 0 0, .map none, .slice none 0 0, .slice none 0 0, .slice none 0 0, .slice none 0 0, .slice none 0 0, .slice none 0 0, .slice none 0 0, .slice none 0 0, .slice none 0 0, .slice none 0 0, .map none, .map none, .int .i64 0], .struct [(0, 1), (1, 66), (67, 1), (68, 11), (79, 1), (80, 1), (81, 1)]⟩)))
       else (bif Nat.blt t 117 then
        (bif Nat.blt t 116 then
         some ⟨82, 832, true, [.pointer none, .int .u64 0, .int .u64 0, .int .u64 0, .int .u64 0, .int .u64 0, .int .u64 0, .int .u64 0, .int .u64 0, .int .u64 0, .int .u64 0, .int .u64 0, .int .u64 0, .int .u64 0, .int .u64 0, .int .u64 0, .int .u64 0, .int .u64 0, .int .u64 0, .int .u64 0, .int .u64 0, .int .u64 0, .int .u64 0, .int .u64 0, .int .u64 0, .int .u64 0, .int .u64 0, .int .u64 0, .int .u64 0, .int .u64 0, .int .u64 0, .int .u64 0, .int .u64 0, .int .u64 0, .int .u64 0, .int .u64 0, .int .u64 0, .int .u64 0, .int .u64 0, .int .u64 0, .int .u64 0, .int .u64 0, .int .u64 0, .int .u64 0, .int .u64 0, .int .u64 0, .int .u64 0, .int .u64 0, .int .u64 0, .int .u64 0, .int .u64 0, .int .u64 0, .int .u64 0, .int .u64 0, .int .u64 0, .int .u64 0, .int .u64 0, .int .u64 0, .int .u64 0, .int .u64 0, .int .u64 0, .int .u64 0, .int .u64 0, .int .u64 0, .int .u64 0, .int .i64 0, .int .i64 0, .slice none 0 0, .map none, .slice none 0 0, .slice none 0 0, .slice none 0 0, .slice none 0 0, .slice none 0 0, .slice none 0 0, .slice none 0 0, .slice none 0 0, .slice none 0 0, .slice none 0 0, .map none, .map none, .int .i64 0], .struct [(0, 1), (1, 66), (67, 1), (68, 11), (79, 1), (80, 1), (81, 1)]⟩
         else some ⟨1, 8, false, [.pointer none], .other⟩)
        else (bif Nat.blt t 118 then
         some ⟨1, 8, false, [.nilFunc], .other⟩
         else (bif Nat.blt t 120 then
          (bif Nat.beq t 118 then some ⟨1, 8, false, [.nilFunc], .other⟩ else none)
          else some ⟨1, 8, false, [.nilFunc], .other⟩))))
      else (bif Nat.blt t 128 then
       (bif Nat.blt t 124 then
        (bif Nat.blt t 123 then
         (bif Nat.beq t 121 then some ⟨1, 8, false, [.nilFunc], .other⟩ else none)
         else some ⟨1, 8, false, [.nilFunc], .other⟩)
        else (bif Nat.blt t 125 then
         some ⟨6, 64, true, [.int .i64 0, .int .i64 0, .int .i64 0, .string ⟨#[]⟩, .int .i64 0, .string ⟨#[]⟩], .struct [(0, 1), (1, 1), (2, 1), (3, 1), (4, 1), (5, 1)]⟩
         else (bif Nat.blt t 127 then
          (bif Nat.beq t 125 then some ⟨6, 64, true, [.int .i64 0, .int .i64 0, .int .i64 0, .string ⟨#[]⟩, .int .i64 0, .string ⟨#[]⟩], .struct [(0, 1), (1, 1), (2, 1), (3, 1), (4, 1), (5, 1)]⟩ else none)
          else some ⟨1, 8, false, [.nilFunc], .other⟩)))
       else (bif Nat.blt t 131 then
        (bif Nat.blt t 129 then
         some ⟨1, 8, false, [.nilFunc], .other⟩
         else (bif Nat.blt t 130 then
          some ⟨1, 8, false, [.pointer none], .other⟩
          else some ⟨1, 8, false, [.nilFunc], .other⟩))
        else (bif Nat.blt t 132 then
         some ⟨1, 24, false, [.slice none 0 0], .slice 134⟩
         else (bif Nat.blt t 133 then
          some ⟨1, 8, false, [.nilFunc], .other⟩
          else some ⟨8, 80, true, [.int .i64 0, .int .i64 0, .int .i64 0, .int .i64 0, .int .i64 0, .string ⟨#[]⟩, .int .i64 0, .string ⟨#[]⟩], .struct [(0, 1), (1, 1), (2, 6)]⟩))))))
    else (bif Nat.blt t 159 then
     (bif Nat.blt t 145 then
      (bif Nat.blt t 139 then
       (bif Nat.blt t 136 then
        (bif Nat.blt t 135 then
         some ⟨8, 80, true, [.int .i64 0, .int .i64 0, .int .i64 0, .int .i64 0, .int .i64 0, .string ⟨#[]⟩, .int .i64 0, .string ⟨#[]⟩], .struct [(0, 1), (1, 1), (2, 6)]⟩
         else some ⟨1, 8, false, [.nilFunc], .other⟩)
        else (bif Nat.blt t 137 then
         some ⟨1, 24, false, [.slice none 0 0], .slice 139⟩
         else (bif Nat.blt t 138 then
          some ⟨1, 8, false, [.nilFunc], .other⟩
          else some ⟨4, 40, true, [.int .i64 0, .int .i64 0, .string ⟨#[]⟩, .bool false], .struct [(0, 1), (1, 1), (2, 1), (3, 1)]⟩)))
       else (bif Nat.blt t 141 then
        (bif Nat.blt t 140 then
         some ⟨4, 40, true, [.int .i64 0, .int .i64 0, .string ⟨#[]⟩, .bool false], .struct [(0, 1), (1, 1), (2, 1), (3, 1)]⟩
         else some ⟨1, 8, false, [.nilFunc], .other⟩)
        else (bif Nat.blt t 142 then
         some ⟨1, 8, false, [.nilFunc], .other⟩
         else (bif Nat.blt t 143 then
          some ⟨1, 8, false, [.nilFunc], .other⟩
          else (bif Nat.beq t 143 then some ⟨1, 8, false, [.nilFunc], .other⟩ else none)))))
      else (bif Nat.blt t 151 then
       (bif Nat.blt t 147 then
        (bif Nat.blt t 146 then
         some ⟨1, 8, false, [.nilFunc], .other⟩
         else some ⟨1, 8, false, [.nilFunc], .other⟩)
        else (bif Nat.blt t 148 then
         some ⟨1, 8, false, [.nilFunc], .other⟩
         else (bif Nat.blt t 150 then
          (bif Nat.beq t 148 then some ⟨1, 8, false, [.nilFunc], .other⟩ else none)
          else some ⟨1, 8, false, [.nilFunc], .other⟩)))
       else (bif Nat.blt t 156 then
        (bif Nat.blt t 153 then
         (bif Nat.beq t 151 then some ⟨1, 8, false, [.nilFunc], .other⟩ else none)
         else (bif Nat.blt t 155 then
          (bif Nat.beq t 153 then some ⟨1, 8, false, [.nilFunc], .other⟩ else none)
          else some ⟨1, 8, false, [.nilFunc], .other⟩))
        else (bif Nat.blt t 157 then
         some ⟨3, 32, true, [.int .i64 0, .int .i64 0, .string ⟨#[]⟩], .struct [(0, 1), (1, 1), (2, 1)]⟩
         else (bif Nat.blt t 158 then
          some ⟨3, 32, true, [.int .i64 0, .int .i64 0, .string ⟨#[]⟩], .struct [(0, 1), (1, 1), (2, 1)]⟩
          else some ⟨1, 8, false, [.nilFunc], .other⟩)))))
     else (bif Nat.blt t 169 then
      (bif Nat.blt t 164 then
       (bif Nat.blt t 161 then
        (bif Nat.blt t 160 then
         some ⟨1, 8, false, [.nilFunc], .other⟩
         else some ⟨9, 72, true, [.int .i64 0, .int .i64 0, .int .i64 0, .int .i64 0, .int .i64 0, .int .i64 0, .int .i64 0, .int .i64 0, .int .i64 0], .arr 9 3⟩)
        else (bif Nat.blt t 162 then
         some ⟨2, 16, true, [.int .i64 0, .int .u64 0], .struct [(0, 1), (1, 1)]⟩
         else (bif Nat.blt t 163 then
          some ⟨2, 16, true, [.int .i64 0, .int .u64 0], .struct [(0, 1), (1, 1)]⟩
          else some ⟨18, 144, true, [.int .i64 0, .int .u64 0, .int .i64 0, .int .u64 0, .int .i64 0, .int .u64 0, .int .i64 0, .int .u64 0, .int .i64 0, .int .u64 0, .int .i64 0, .int .u64 0, .int .i64 0, .int .u64 0, .int .i64 0, .int .u64 0, .int .i64 0, .int .u64 0], .arr 9 162⟩)))
       else (bif Nat.blt t 166 then
        (bif Nat.blt t 165 then
         some ⟨27, 216, true, [.int .i64 0, .int .i64 0, .int .i64 0, .int .i64 0, .int .i64 0, .int .i64 0, .int .i64 0, .int .i64 0, .int .i64 0, .int .i64 0, .int .u64 0, .int .i64 0, .int .u64 0, .int .i64 0, .int .u64 0, .int .i64 0, .int .u64 0, .int .i64 0, .int .u64 0, .int .i64 0, .int .u64 0, .int .i64 0, .int .u64 0, .int .i64 0, .int .u64 0, .int .i64 0, .int .u64 0], .struct [(0, 9), (9, 18)]⟩
         else some ⟨27, 216, true, [.int .i64 0, .int .i64 0, .int .i64 0, .int .i64 0, .int .i64 0, .int .i64 0, .int .i64 0, .int .i64 0, .int .i64 0, .int .i64 0, .int .u64 0, .int .i64 0, .int .u64 0, .int .i64 0, .int .u64 0, .int .i64 0, .int .u64 0, .int .i64 0, .int .u64 0, .int .i64 0, .int .u64 0, .int .i64 0, .int .u64 0, .int .i64 0, .int .u64 0, .int .i64 0, .int .u64 0], .struct [(0, 9), (9, 18)]⟩)
        else (bif Nat.blt t 167 then
         some ⟨3, 24, true, [.int .i64 0, .int .i64 0, .int .i64 0], .struct [(0, 1), (1, 1), (2, 1)]⟩
         else (bif Nat.blt t 168 then
          some ⟨3, 24, true, [.int .i64 0, .int .i64 0, .int .i64 0], .struct [(0, 1), (1, 1), (2, 1)]⟩
          else some ⟨1, 8, false, [.pointer none], .other⟩))))
      else (bif Nat.blt t 174 then
       (bif Nat.blt t 171 then
        (bif Nat.blt t 170 then
         some ⟨1, 8, false, [.nilFunc], .other⟩
         else some ⟨2, 16, true, [.int .i64 0, .int .i64 0], .struct [(0, 1), (1, 1)]⟩)
        else (bif Nat.blt t 172 then
         some ⟨2, 16, true, [.int .i64 0, .int .i64 0], .struct [(0, 1), (1, 1)]⟩
         else (bif Nat.blt t 173 then
          some ⟨1, 8, false, [.pointer none], .other⟩
          else some ⟨1, 8, false, [.nilFunc], .other⟩)))
       else (bif Nat.blt t 177 then
        (bif Nat.blt t 175 then
         some ⟨10, 80, true, [.int .i64 0, .int .i64 0, .int .i64 0, .int .i64 0, .int .i64 0, .int .i64 0, .int .i64 0, .int .i64 0, .int .i64 0, .bool false], .struct [(0, 3), (3, 2), (5, 2), (7, 2), (9, 1)]⟩
         else (bif Nat.blt t 176 then
          some ⟨10, 80, true, [.int .i64 0, .int .i64 0, .int .i64 0, .int .i64 0, .int .i64 0, .int .i64 0, .int .i64 0, .int .i64 0, .int .i64 0, .bool false], .struct [(0, 3), (3, 2), (5, 2), (7, 2), (9, 1)]⟩
          else some ⟨1, 8, false, [.nilFunc], .other⟩))
        else (bif Nat.blt t 178 then
         some ⟨1, 8, false, [.nilFunc], .other⟩
         else (bif Nat.blt t 179 then
          some ⟨1, 8, false, [.nilFunc], .other⟩
          else some ⟨1, 8, false, [.int .u64 0], .int .u64⟩))))))))
  else (bif Nat.blt t 273 then
   (bif Nat.blt t 227 then
    (bif Nat.blt t 204 then
     (bif Nat.blt t 193 then
      (bif Nat.blt t 187 then
       (bif Nat.blt t 182 then
        (bif Nat.blt t 181 then
         some ⟨1, 8, false, [.pointer none], .other⟩
         else some ⟨1, 8, false, [.nilFunc], .other⟩)
        else (bif Nat.blt t 184 then
         (bif Nat.beq t 182 then some ⟨1, 24, false, [.slice none 0 0], .slice 125⟩ else none)
         else (bif Nat.blt t 186 then
          (bif Nat.beq t 184 then some ⟨1, 8, false, [.nilFunc], .other⟩ else none)
          else some ⟨1, 8, false, [.nilFunc], .other⟩)))
       else (bif Nat.blt t 190 then
        (bif Nat.blt t 188 then
         some ⟨3, 32, true, [.int .u64 0, .int .i64 0, .string ⟨#[]⟩], .struct [(0, 1), (1, 1), (2, 1)]⟩
         else (bif Nat.beq t 188 then some ⟨3, 32, true, [.int .u64 0, .int .i64 0, .string ⟨#[]⟩], .struct [(0, 1), (1, 1), (2, 1)]⟩ else none))
        else (bif Nat.blt t 191 then
         some ⟨1, 8, false, [.nilFunc], .other⟩
         else (bif Nat.blt t 192 then
          some ⟨1, 8, false, [.nilFunc], .other⟩
          else some ⟨5, 48, true, [.int .i64 0, .int .i64 0, .int .i64 0, .string ⟨#[]⟩, .int .i64 0], .struct [(0, 1), (1, 3), (4, 1)]⟩))))
      else (bif Nat.blt t 199 then
       (bif Nat.blt t 196 then
        (bif Nat.blt t 195 then
         (bif Nat.beq t 193 then some ⟨5, 48, true, [.int .i64 0, .int .i64 0, .int .i64 0, .string ⟨#[]⟩, .int .i64 0], .struct [(0, 1), (1, 3), (4, 1)]⟩ else none)
         else some ⟨1, 8, false, [.nilFunc], .other⟩)
        else (bif Nat.blt t 197 then
         some ⟨1, 8, false, [.nilFunc], .other⟩
         else (bif Nat.blt t 198 then
          some ⟨1, 8, false, [.nilFunc], .other⟩
          else some ⟨1, 8, false, [.nilFunc], .other⟩)))
       else (bif Nat.blt t 201 then
        (bif Nat.blt t 200 then
         some ⟨1, 8, false, [.nilFunc], .other⟩
         else some ⟨1, 8, false, [.nilFunc], .other⟩)
        else (bif Nat.blt t 202 then
         some ⟨1, 8, false, [.nilFunc], .other⟩
         else (bif Nat.blt t 203 then
          some ⟨0, 0, true, [], .struct []⟩
          else some ⟨0, 0, true, [], .struct []⟩)))))
     else (bif Nat.blt t 214 then
      (bif Nat.blt t 209 then
       (bif Nat.blt t 206 then
        (bif Nat.blt t 205 then
         some ⟨0, 0, true, [], .struct []⟩
         else some ⟨1, 8, true, [.int .i64 0], .struct [(0, 0), (0, 0), (0, 1)]⟩)
        else (bif Nat.blt t 207 then
         some ⟨1, 8, true, [.int .i64 0], .struct [(0, 0), (0, 0), (0, 1)]⟩
         else (bif Nat.blt t 208 then
          some ⟨10, 80, true, [.int .i64 0, .int .i64 0, .int .i64 0, .int .i64 0, .int .i64 0, .int .i64 0, .int .i64 0, .int .i64 0, .int .i64 0, .int .i64 0], .arr 10 206⟩
          else some ⟨21, 168, true, [.int .i64 0, .int .i64 0, .int .i64 0, .int .i64 0, .int .i64 0, .int .i64 0, .int .i64 0, .int .i64 0, .int .i64 0, .int .i64 0, .int .i64 0, .int .i64 0, .int .i64 0, .int .i64 0, .int .i64 0, .int .i64 0, .int .i64 0, .int .i64 0, .int .i64 0, .int .i64 0, .int .i64 0], .arr 21 206⟩)))
       else (bif Nat.blt t 211 then
        (bif Nat.blt t 210 then
         some ⟨9, 72, true, [.int .i64 0, .int .i64 0, .int .i64 0, .int .i64 0, .int .i64 0, .int .i64 0, .int .i64 0, .int .i64 0, .int .i64 0], .arr 9 206⟩
         else some ⟨44, 352, true, [.int .i64 0, .int .i64 0, .int .i64 0, .int .i64 0, .int .i64 0, .int .i64 0, .int .i64 0, .int .i64 0, .int .i64 0, .int .i64 0, .int .i64 0, .int .i64 0, .int .i64 0, .int .i64 0, .int .i64 0, .int .i64 0, .int .i64 0, .int .i64 0, .int .i64 0, .int .i64 0, .int .i64 0, .int .i64 0, .int .i64 0, .int .i64 0, .int .i64 0, .int .i64 0, .int .i64 0, .int .i64 0, .int .i64 0, .int .i64 0, .int .i64 0, .int .i64 0, .int .i64 0, .int .i64 0, .int .i64 0, .int .i64 0, .int .i64 0, .int .i64 0, .int .i64 0, .int .i64 0, .int .i64 0, .int .i64 0, .int .i64 0, .int .i64 0], .struct [(0, 10), (10, 21), (31, 9), (40, 1), (41, 1), (42, 1), (43, 1)]⟩)
        else (bif Nat.blt t 212 then
         some ⟨44, 352, true, [.int .i64 0, .int .i64 0, .int .i64 0, .int .i64 0, .int .i64 0, .int .i64 0, .int .i64 0, .int .i64 0, .int .i64 0, .int .i64 0, .int .i64 0, .int .i64 0, .int .i64 0, .int .i64 0, .int .i64 0, .int .i64 0, .int .i64 0, .int .i64 0, .int .i64 0, .int .i64 0, .int .i64 0, .int .i64 0, .int .i64 0, .int .i64 0, .int .i64 0, .int .i64 0, .int .i64 0, .int .i64 0, .int .i64 0, .int .i64 0, .int .i64 0, .int .i64 0, .int .i64 0, .int .i64 0, .int .i64 0, .int .i64 0, .int .i64 0, .int .i64 0, .int .i64 0, .int .i64 0, .int .i64 0, .int .i64 0, .int .i64 0, .int .i64 0], .struct [(0, 10), (10, 21), (31, 9), (40, 1), (41, 1), (42, 1), (43, 1)]⟩
         else (bif Nat.blt t 213 then
          some ⟨1, 8, false, [.nilFunc], .other⟩
          else some ⟨1, 8, false, [.nilFunc], .other⟩))))
      else (bif Nat.blt t 219 then
       (bif Nat.blt t 216 then
        (bif Nat.blt t 215 then
         some ⟨1, 8, false, [.pointer none], .other⟩
         else some ⟨1, 8, false, [.nilFunc], .other⟩)
        else (bif Nat.blt t 217 then
         some ⟨1, 8, false, [.nilFunc], .other⟩
         else (bif Nat.blt t 218 then
          some ⟨1, 8, false, [.nilFunc], .other⟩
          else some ⟨1, 8, false, [.nilFunc], .other⟩)))
       else (bif Nat.blt t 223 then
        (bif Nat.blt t 220 then
         some ⟨1, 8, false, [.nilFunc], .other⟩
         else (bif Nat.blt t 222 then
          (bif Nat.beq t 220 then some ⟨1, 8, false, [.nilFunc], .other⟩ else none)
          else some ⟨1, 8, false, [.nilFunc], .other⟩))
        else (bif Nat.blt t 224 then
         some ⟨1, 8, false, [.nilFunc], .other⟩
         else (bif Nat.blt t 226 then
          (bif Nat.beq t 224 then some ⟨1, 8, false, [.nilFunc], .other⟩ else none)
          else some ⟨1, 8, false, [.nilFunc], .other⟩))))))
    else (bif Nat.blt t 250 then
     (bif Nat.blt t 237 then
      (bif Nat.blt t 232 then
       (bif Nat.blt t 229 then
        (bif Nat.blt t 228 then
         some ⟨1, 8, false, [.nilFunc], .other⟩
         else some ⟨1, 8, false, [.nilFunc], .other⟩)
        else (bif Nat.blt t 230 then
         some ⟨1, 8, false, [.nilFunc], .other⟩
         else (bif Nat.blt t 231 then
          some ⟨3, 24, true, [.int .i64 0, .int .i64 0, .int .u64 0], .struct [(0, 1), (1, 1), (2, 1)]⟩
          else some ⟨3, 24, true, [.int .i64 0, .int .i64 0, .int .u64 0], .struct [(0, 1), (1, 1), (2, 1)]⟩)))
       else (bif Nat.blt t 234 then
        (bif Nat.blt t 233 then
         some ⟨1, 8, false, [.nilFunc], .other⟩
         else some ⟨1, 8, false, [.nilFunc], .other⟩)
        else (bif Nat.blt t 235 then
         some ⟨1, 8, false, [.nilFunc], .other⟩
         else (bif Nat.blt t 236 then
          some ⟨5, 56, true, [.int .u64 0, .int .i64 0, .string ⟨#[]⟩, .string ⟨#[]⟩, .int .i64 0], .struct [(0, 1), (1, 1), (2, 1), (3, 1), (4, 1)]⟩
          else some ⟨5, 56, true, [.int .u64 0, .int .i64 0, .string ⟨#[]⟩, .string ⟨#[]⟩, .int .i64 0], .struct [(0, 1), (1, 1), (2, 1), (3, 1), (4, 1)]⟩))))
      else (bif Nat.blt t 244 then
       (bif Nat.blt t 239 then
        (bif Nat.blt t 238 then
         some ⟨24, 24, true, [.int .u8 0, .int .u8 0, .int .u8 0, .int .u8 0, .int .u8 0, .int .u8 0, .int .u8 0, .int .u8 0, .int .u8 0, .int .u8 0, .int .u8 0, .int .u8 0, .int .u8 0, .int .u8 0, .int .u8 0, .int .u8 0, .int .u8 0, .int .u8 0, .int .u8 0, .int .u8 0, .int .u8 0, .int .u8 0, .int .u8 0, .int .u8 0], .arr 24 5⟩
         else some ⟨1, 8, false, [.nilFunc], .other⟩)
        else (bif Nat.blt t 241 then
         (bif Nat.beq t 239 then some ⟨1, 8, false, [.nilFunc], .other⟩ else none)
         else (bif Nat.blt t 242 then
          some ⟨1, 8, false, [.nilFunc], .other⟩
          else (bif Nat.beq t 242 then some ⟨1, 24, false, [.slice none 0 0], .slice 157⟩ else none))))
       else (bif Nat.blt t 247 then
        (bif Nat.blt t 245 then
         some ⟨1, 8, false, [.nilFunc], .other⟩
         else (bif Nat.beq t 245 then some ⟨1, 8, false, [.nilFunc], .other⟩ else none))
        else (bif Nat.blt t 248 then
         some ⟨1, 8, false, [.nilFunc], .other⟩
         else (bif Nat.blt t 249 then
          some ⟨1, 8, false, [.nilFunc], .other⟩
          else some ⟨1, 8, false, [.pointer none], .other⟩)))))
     else (bif Nat.blt t 261 then
      (bif Nat.blt t 255 then
       (bif Nat.blt t 252 then
        (bif Nat.blt t 251 then
         some ⟨1, 8, false, [.nilFunc], .other⟩
         else some ⟨1, 8, false, [.pointer none], .other⟩)
        else (bif Nat.blt t 253 then
         some ⟨1, 8, false, [.pointer none], .other⟩
         else (bif Nat.blt t 254 then
          some ⟨2, 24, true, [.string ⟨#[]⟩, .int .i64 0], .struct [(0, 1), (1, 1)]⟩
          else some ⟨2, 24, true, [.string ⟨#[]⟩, .int .i64 0], .struct [(0, 1), (1, 1)]⟩)))
       else (bif Nat.blt t 257 then
        (bif Nat.blt t 256 then
         some ⟨1, 8, false, [.int .i64 0], .int .i64⟩
         else some ⟨5, 64, true, [.string ⟨#[]⟩, .int .i64 0, .int .i64 0, .int .i64 0, .slice none 0 0], .struct [(0, 2), (2, 1), (3, 1), (4, 1)]⟩)
        else (bif Nat.blt t 258 then
         some ⟨5, 64, true, [.string ⟨#[]⟩, .int .i64 0, .int .i64 0, .int .i64 0, .slice none 0 0], .struct [(0, 2), (2, 1), (3, 1), (4, 1)]⟩
         else (bif Nat.blt t 260 then
          (bif Nat.beq t 258 then some ⟨1, 8, false, [.pointer none], .other⟩ else none)
          else some ⟨1, 8, false, [.nilFunc], .other⟩))))
      else (bif Nat.blt t 267 then
       (bif Nat.blt t 263 then
        (bif Nat.blt t 262 then
         some ⟨12, 96, true, [.int .i64 0, .int .i64 0, .int .i64 0, .int .i64 0, .int .i64 0, .int .i64 0, .int .i64 0, .int .i64 0, .int .i64 0, .int .i64 0, .int .i64 0, .int .i64 0], .struct [(0, 1), (1, 1), (2, 1), (3, 9)]⟩
         else some ⟨12, 96, true, [.int .i64 0, .int .i64 0, .int .i64 0, .int .i64 0, .int .i64 0, .int .i64 0, .int .i64 0, .int .i64 0, .int .i64 0, .int .i64 0, .int .i64 0, .int .i64 0], .struct [(0, 1), (1, 1), (2, 1), (3, 9)]⟩)
        else (bif Nat.blt t 265 then
         (bif Nat.beq t 263 then some ⟨1, 8, false, [.nilFunc], .other⟩ else none)
         else (bif Nat.blt t 266 then
          some ⟨1, 8, false, [.nilFunc], .other⟩
          else some ⟨1, 8, false, [.nilFunc], .other⟩)))
       else (bif Nat.blt t 270 then
        (bif Nat.blt t 268 then
         some ⟨1, 8, false, [.nilFunc], .other⟩
         else (bif Nat.blt t 269 then
          some ⟨1, 8, false, [.pointer none], .other⟩
          else some ⟨1, 8, false, [.nilFunc], .other⟩))
        else (bif Nat.blt t 271 then
         some ⟨1, 8, false, [.nilFunc], .other⟩
         else (bif Nat.blt t 272 then
          some ⟨1, 8, false, [.nilFunc], .other⟩
          else some ⟨1, 8, false, [.nilFunc], .other⟩)))))))
   else (bif Nat.blt t 318 then
    (bif Nat.blt t 295 then
     (bif Nat.blt t 284 then
      (bif Nat.blt t 278 then
       (bif Nat.blt t 275 then
        (bif Nat.blt t 274 then
         some ⟨3, 24, true, [.int .i64 0, .int .i64 0, .int .u64 0], .struct [(0, 1), (1, 1), (2, 1)]⟩
         else some ⟨1, 8, false, [.nilFunc], .other⟩)
        else (bif Nat.blt t 276 then
         some ⟨1, 8, false, [.nilFunc], .other⟩
         else (bif Nat.blt t 277 then
          some ⟨4, 4, true, [.int .u8 0, .int .u8 0, .int .u8 0, .int .u8 0], .arr 4 5⟩
          else some ⟨12, 96, true, [.int .u64 0, .int .i64 0, .int .i64 0, .int .i64 0, .int .i64 0, .int .i64 0, .int .i64 0, .int .i64 0, .int .i64 0, .int .i64 0, .int .i64 0, .int .i64 0], .struct [(0, 1), (1, 1), (2, 1), (3, 9)]⟩)))
       else (bif Nat.blt t 281 then
        (bif Nat.blt t 280 then
         (bif Nat.beq t 278 then some ⟨12, 96, true, [.int .u64 0, .int .i64 0, .int .i64 0, .int .i64 0, .int .i64 0, .int .i64 0, .int .i64 0, .int .i64 0, .int .i64 0, .int .i64 0, .int .i64 0, .int .i64 0], .struct [(0, 1), (1, 1), (2, 1), (3, 9)]⟩ else none)
         else some ⟨1, 8, false, [.nilFunc], .other⟩)
        else (bif Nat.blt t 282 then
         some ⟨1, 8, false, [.nilFunc], .other⟩
         else (bif Nat.blt t 283 then
          some ⟨1, 8, false, [.nilFunc], .other⟩
          else some ⟨1, 8, false, [.nilFunc], .other⟩))))
      else (bif Nat.blt t 289 then
       (bif Nat.blt t 286 then
        (bif Nat.blt t 285 then
         some ⟨1, 8, false, [.nilFunc], .other⟩
         else some ⟨20, 160, true, [.int .u64 0, .int .u64 0, .int .u64 0, .int .u64 0, .int .u64 0, .int .u64 0, .int .u64 0, .int .u64 0, .int .u64 0, .int .u64 0, .int .u64 0, .int .u64 0, .int .u64 0, .int .u64 0, .int .u64 0, .int .u64 0, .int .u64 0, .int .u64 0, .int .u64 0, .int .u64 0], .arr 20 24⟩)
        else (bif Nat.blt t 287 then
         some ⟨1, 4, false, [.int .u32 0], .int .u32⟩
         else (bif Nat.blt t 288 then
          some ⟨65, 65, true, [.int .u8 0, .int .u8 0, .int .u8 0, .int .u8 0, .int .u8 0, .int .u8 0, .int .u8 0, .int .u8 0, .int .u8 0, .int .u8 0, .int .u8 0, .int .u8 0, .int .u8 0, .int .u8 0, .int .u8 0, .int .u8 0, .int .u8 0, .int .u8 0, .int .u8 0, .int .u8 0, .int .u8 0, .int .u8 0, .int .u8 0, .int .u8 0, .int .u8 0, .int .u8 0, .int .u8 0, .int .u8 0, .int .u8 0, .int .u8 0, .int .u8 0, .int .u8 0, .int .u8 0, .int .u8 0, .int .u8 0, .int .u8 0, .int .u8 0, .int .u8 0, .int .u8 0, .int .u8 0, .int .u8 0, .int .u8 0, .int .u8 0, .int .u8 0, .int .u8 0, .int .u8 0, .int .u8 0, .int .u8 0, .int .u8 0, .int .u8 0, .int .u8 0, .int .u8 0, .int .u8 0, .int .u8 0, .int .u8 0, .int .u8 0, .int .u8 0, .int .u8 0, .int .u8 0, .int .u8 0, .int .u8 0, .int .u8 0, .int .u8 0, .int .u8 0, .int .u8 0], .arr 65 5⟩
          else some ⟨1, 8, false, [.nilFunc], .other⟩)))
       else (bif Nat.blt t 291 then
        (bif Nat.blt t 290 then
         some ⟨1, 8, false, [.nilFunc], .other⟩
         else some ⟨1, 8, false, [.nilFunc], .other⟩)
        else (bif Nat.blt t 292 then
         some ⟨1, 8, false, [.nilFunc], .other⟩
         else (bif Nat.blt t 294 then
          (bif Nat.beq t 292 then some ⟨1, 8, false, [.nilFunc], .other⟩ else none)
          else some ⟨1, 8, false, [.nilFunc], .other⟩)))))
     else (bif Nat.blt t 306 then
      (bif Nat.blt t 301 then
       (bif Nat.blt t 297 then
        (bif Nat.blt t 296 then
         some ⟨1, 8, false, [.nilFunc], .other⟩
         else some ⟨1, 8, false, [.nilFunc], .other⟩)
        else (bif Nat.blt t 298 then
         some ⟨3, 32, true, [.string ⟨#[]⟩, .int .i64 0, .int .i64 0], .struct [(0, 1), (1, 1), (2, 1)]⟩
         else (bif Nat.blt t 299 then
          some ⟨3, 32, true, [.string ⟨#[]⟩, .int .i64 0, .int .i64 0], .struct [(0, 1), (1, 1), (2, 1)]⟩
          else (bif Nat.beq t 299 then some ⟨1, 8, false, [.nilFunc], .other⟩ else none))))
       else (bif Nat.blt t 303 then
        (bif Nat.blt t 302 then
         some ⟨1, 8, false, [.nilFunc], .other⟩
         else some ⟨1, 8, false, [.nilFunc], .other⟩)
        else (bif Nat.blt t 304 then
         some ⟨1, 8, false, [.nilFunc], .other⟩
         else (bif Nat.blt t 305 then
          some ⟨1, 8, false, [.nilFunc], .other⟩
          else some ⟨1, 8, false, [.nilFunc], .other⟩))))
      else (bif Nat.blt t 311 then
       (bif Nat.blt t 308 then
        (bif Nat.blt t 307 then
         some ⟨1, 8, false, [.pointer none], .other⟩
         else some ⟨1, 8, false, [.pointer none], .other⟩)
        else (bif Nat.blt t 309 then
         some ⟨6, 56, true, [.int .i64 0, .int .i64 0, .int .i64 0, .slice none 0 0, .bool false, .bool false], .struct [(0, 1), (1, 1), (2, 1), (3, 1), (4, 1), (5, 1)]⟩
         else (bif Nat.blt t 310 then
          some ⟨6, 56, true, [.int .i64 0, .int .i64 0, .int .i64 0, .slice none 0 0, .bool false, .bool false], .struct [(0, 1), (1, 1), (2, 1), (3, 1), (4, 1), (5, 1)]⟩
          else some ⟨1, 8, false, [.nilFunc], .other⟩)))
       else (bif Nat.blt t 315 then
        (bif Nat.blt t 313 then
         (bif Nat.beq t 311 then some ⟨1, 8, false, [.nilFunc], .other⟩ else none)
         else (bif Nat.blt t 314 then
          some ⟨1, 8, false, [.nilFunc], .other⟩
          else some ⟨1, 8, false, [.nilFunc], .other⟩))
        else (bif Nat.blt t 316 then
         some ⟨1, 8, false, [.pointer none], .other⟩
         else (bif Nat.blt t 317 then
          some ⟨1, 24, false, [.slice none 0 0], .slice 450⟩
          else some ⟨1, 8, false, [.map none], .other⟩))))))
    else (bif Nat.blt t 339 then
     (bif Nat.blt t 328 then
      (bif Nat.blt t 323 then
       (bif Nat.blt t 320 then
        (bif Nat.blt t 319 then
         some ⟨2, 16, true, [.map none, .int .i64 0], .struct [(0, 1), (1, 1)]⟩
         else some ⟨2, 16, true, [.map none, .int .i64 0], .struct [(0, 1), (1, 1)]⟩)
        else (bif Nat.blt t 321 then
         some ⟨1, 8, false, [.map none], .other⟩
         else (bif Nat.blt t 322 then
          some ⟨2, 16, true, [.map none, .int .i64 0], .struct [(0, 1), (1, 1)]⟩
          else some ⟨2, 16, true, [.map none, .int .i64 0], .struct [(0, 1), (1, 1)]⟩)))
       else (bif Nat.blt t 325 then
        (bif Nat.blt t 324 then
         some ⟨1, 8, false, [.map none], .other⟩
         else some ⟨2, 16, true, [.map none, .int .i64 0], .struct [(0, 1), (1, 1)]⟩)
        else (bif Nat.blt t 326 then
         some ⟨2, 16, true, [.map none, .int .i64 0], .struct [(0, 1), (1, 1)]⟩
         else (bif Nat.blt t 327 then
          some ⟨1, 8, false, [.map none], .other⟩
          else some ⟨2, 16, true, [.map none, .int .i64 0], .struct [(0, 1), (1, 1)]⟩))))
      else (bif Nat.blt t 333 then
       (bif Nat.blt t 330 then
        (bif Nat.blt t 329 then
         some ⟨2, 16, true, [.map none, .int .i64 0], .struct [(0, 1), (1, 1)]⟩
         else some ⟨8, 64, true, [.map none, .int .i64 0, .map none, .int .i64 0, .map none, .int .i64 0, .map none, .int .i64 0], .struct [(0, 2), (2, 2), (4, 2), (6, 2)]⟩)
        else (bif Nat.blt t 331 then
         some ⟨8, 64, true, [.map none, .int .i64 0, .map none, .int .i64 0, .map none, .int .i64 0, .map none, .int .i64 0], .struct [(0, 2), (2, 2), (4, 2), (6, 2)]⟩
         else (bif Nat.blt t 332 then
          some ⟨2, 24, true, [.int .u64 0, .string ⟨#[]⟩], .struct [(0, 1), (1, 1)]⟩
          else some ⟨2, 24, true, [.int .u64 0, .string ⟨#[]⟩], .struct [(0, 1), (1, 1)]⟩)))
       else (bif Nat.blt t 336 then
        (bif Nat.blt t 334 then
         some ⟨16, 192, true, [.int .u64 0, .string ⟨#[]⟩, .int .u64 0, .string ⟨#[]⟩, .int .u64 0, .string ⟨#[]⟩, .int .u64 0, .string ⟨#[]⟩, .int .u64 0, .string ⟨#[]⟩, .int .u64 0, .string ⟨#[]⟩, .int .u64 0, .string ⟨#[]⟩, .int .u64 0, .string ⟨#[]⟩], .arr 8 332⟩
         else (bif Nat.blt t 335 then
          some ⟨18, 208, true, [.int .u64 0, .string ⟨#[]⟩, .int .u64 0, .string ⟨#[]⟩, .int .u64 0, .string ⟨#[]⟩, .int .u64 0, .string ⟨#[]⟩, .int .u64 0, .string ⟨#[]⟩, .int .u64 0, .string ⟨#[]⟩, .int .u64 0, .string ⟨#[]⟩, .int .u64 0, .string ⟨#[]⟩, .int .i64 0, .int .i64 0], .struct [(0, 16), (16, 1), (17, 1)]⟩
          else some ⟨18, 208, true, [.int .u64 0, .string ⟨#[]⟩, .int .u64 0, .string ⟨#[]⟩, .int .u64 0, .string ⟨#[]⟩, .int .u64 0, .string ⟨#[]⟩, .int .u64 0, .string ⟨#[]⟩, .int .u64 0, .string ⟨#[]⟩, .int .u64 0, .string ⟨#[]⟩, .int .u64 0, .string ⟨#[]⟩, .int .i64 0, .int .i64 0], .struct [(0, 16), (16, 1), (17, 1)]⟩))
        else (bif Nat.blt t 337 then
         some ⟨1, 24, true, [.slice none 0 0], .struct [(0, 1)]⟩
         else (bif Nat.blt t 338 then
          some ⟨1, 24, true, [.slice none 0 0], .struct [(0, 1)]⟩
          else some ⟨29, 328, true, [.pointer none, .slice none 0 0, .map none, .int .i64 0, .map none, .int .i64 0, .map none, .int .i64 0, .map none, .int .i64 0, .int .u64 0, .string ⟨#[]⟩, .int .u64 0, .string ⟨#[]⟩, .int .u64 0, .string ⟨#[]⟩, .int .u64 0, .string ⟨#[]⟩, .int .u64 0, .string ⟨#[]⟩, .int .u64 0, .string ⟨#[]⟩, .int .u64 0, .string ⟨#[]⟩, .int .u64 0, .string ⟨#[]⟩, .int .i64 0, .int .i64 0, .slice none 0 0], .struct [(0, 1), (1, 1), (2, 8), (10, 18), (28, 1)]⟩)))))
     else (bif Nat.blt t 350 then
      (bif Nat.blt t 345 then
       (bif Nat.blt t 341 then
        (bif Nat.blt t 340 then
         some ⟨29, 328, true, [.pointer none, .slice none 0 0, .map none, .int .i64 0, .map none, .int .i64 0, .map none, .int .i64 0, .map none, .int .i64 0, .int .u64 0, .string ⟨#[]⟩, .int .u64 0, .string ⟨#[]⟩, .int .u64 0, .string ⟨#[]⟩, .int .u64 0, .string ⟨#[]⟩, .int .u64 0, .string ⟨#[]⟩, .int .u64 0, .string ⟨#[]⟩, .int .u64 0, .string ⟨#[]⟩, .int .u64 0, .string ⟨#[]⟩, .int .i64 0, .int .i64 0, .slice none 0 0], .struct [(0, 1), (1, 1), (2, 8), (10, 18), (28, 1)]⟩
         else some ⟨1, 8, false, [.nilFunc], .other⟩)
        else (bif Nat.blt t 342 then
         some ⟨1, 8, false, [.nilFunc], .other⟩
         else (bif Nat.blt t 344 then
          (bif Nat.beq t 342 then some ⟨1, 8, false, [.nilFunc], .other⟩ else none)
          else some ⟨1, 8, false, [.nilFunc], .other⟩)))
       else (bif Nat.blt t 347 then
        (bif Nat.blt t 346 then
         some ⟨1, 8, false, [.nilFunc], .other⟩
         else some ⟨1, 8, false, [.nilFunc], .other⟩)
        else (bif Nat.blt t 348 then
         some ⟨1, 8, false, [.nilFunc], .other⟩
         else (bif Nat.blt t 349 then
          some ⟨1, 8, false, [.nilFunc], .other⟩
          else some ⟨1, 8, false, [.pointer none], .other⟩))))
      else (bif Nat.blt t 357 then
       (bif Nat.blt t 353 then
        (bif Nat.blt t 351 then
         some ⟨10, 80, true, [.int .i64 0, .int .i64 0, .int .i64 0, .int .i64 0, .int .i64 0, .int .i64 0, .int .i64 0, .int .i64 0, .int .i64 0, .bool false], .struct [(0, 9), (9, 1)]⟩
         else (bif Nat.beq t 351 then some ⟨10, 80, true, [.int .i64 0, .int .i64 0, .int .i64 0, .int .i64 0, .int .i64 0, .int .i64 0, .int .i64 0, .int .i64 0, .int .i64 0, .bool false], .struct [(0, 9), (9, 1)]⟩ else none))
        else (bif Nat.blt t 355 then
         (bif Nat.beq t 353 then some ⟨1, 8, false, [.nilFunc], .other⟩ else none)
         else (bif Nat.blt t 356 then
          some ⟨2, 2, true, [.int .u8 0, .int .u8 0], .struct [(0, 1), (1, 1)]⟩
          else some ⟨2, 2, true, [.int .u8 0, .int .u8 0], .struct [(0, 1), (1, 1)]⟩)))
       else (bif Nat.blt t 361 then
        (bif Nat.blt t 359 then
         (bif Nat.beq t 357 then some ⟨32, 32, true, [.int .u8 0, .int .u8 0, .int .u8 0, .int .u8 0, .int .u8 0, .int .u8 0, .int .u8 0, .int .u8 0, .int .u8 0, .int .u8 0, .int .u8 0, .int .u8 0, .int .u8 0, .int .u8 0, .int .u8 0, .int .u8 0, .int .u8 0, .int .u8 0, .int .u8 0, .int .u8 0, .int .u8 0, .int .u8 0, .int .u8 0, .int .u8 0, .int .u8 0, .int .u8 0, .int .u8 0, .int .u8 0, .int .u8 0, .int .u8 0, .int .u8 0, .int .u8 0], .arr 16 356⟩ else none)
         else (bif Nat.blt t 360 then
          some ⟨1, 8, false, [.nilFunc], .other⟩
          else some ⟨12, 96, true, [.int .u64 0, .int .i64 0, .int .i64 0, .int .i64 0, .int .i64 0, .int .i64 0, .int .i64 0, .int .i64 0, .int .i64 0, .int .i64 0, .int .i64 0, .int .i64 0], .struct [(0, 1), (1, 1), (2, 1), (3, 9)]⟩))
        else (bif Nat.blt t 362 then
         some ⟨1, 8, false, [.nilFunc], .other⟩
         else (bif Nat.blt t 363 then
          some ⟨4, 40, true, [.int .u64 0, .int .i64 0, .int .i64 0, .string ⟨#[]⟩], .struct [(0, 1), (1, 1), (2, 1), (3, 1)]⟩
          else some ⟨4, 40, true, [.int .u64 0, .int .i64 0, .int .i64 0, .string ⟨#[]⟩], .struct [(0, 1), (1, 1), (2, 1), (3, 1)]⟩)))))))))
 else (bif Nat.blt t 553 then
  (bif Nat.blt t 461 then
   (bif Nat.blt t 412 then
    (bif Nat.blt t 390 then
     (bif Nat.blt t 375 then
      (bif Nat.blt t 369 then
       (bif Nat.blt t 366 then
        (bif Nat.blt t 365 then
         some ⟨1, 8, false, [.nilFunc], .other⟩
         else some ⟨5, 56, true, [.int .u64 0, .int .i64 0, .string ⟨#[]⟩, .string ⟨#[]⟩, .int .i64 0], .struct [(0, 1), (1, 1), (2, 1), (3, 1), (4, 1)]⟩)
        else (bif Nat.blt t 367 then
         some ⟨1, 8, false, [.nilFunc], .other⟩
         else (bif Nat.blt t 368 then
          some ⟨1, 8, false, [.nilFunc], .other⟩
          else some ⟨1, 8, false, [.nilFunc], .other⟩)))
       else (bif Nat.blt t 371 then
        (bif Nat.blt t 370 then
         some ⟨1, 8, false, [.nilFunc], .other⟩
         else some ⟨1, 8, false, [.pointer none], .other⟩)
        else (bif Nat.blt t 372 then
         some ⟨1, 8, false, [.nilFunc], .other⟩
         else (bif Nat.blt t 374 then
          (bif Nat.beq t 372 then some ⟨1, 8, false, [.nilFunc], .other⟩ else none)
          else some ⟨1, 8, false, [.nilFunc], .other⟩))))
      else (bif Nat.blt t 383 then
       (bif Nat.blt t 377 then
        (bif Nat.blt t 376 then
         some ⟨1, 8, false, [.nilFunc], .other⟩
         else some ⟨1, 16, false, [.nilIface], .other⟩)
        else (bif Nat.blt t 378 then
         some ⟨1, 16, false, [.nilIface], .other⟩
         else (bif Nat.blt t 379 then
          some ⟨1, 8, false, [.nilFunc], .other⟩
          else (bif Nat.beq t 379 then some ⟨1, 8, false, [.nilFunc], .other⟩ else none))))
       else (bif Nat.blt t 385 then
        (bif Nat.blt t 384 then
         some ⟨1, 8, false, [.nilFunc], .other⟩
         else some ⟨1, 8, false, [.nilFunc], .other⟩)
        else (bif Nat.blt t 388 then
         (bif Nat.beq t 385 then some ⟨1, 8, false, [.pointer none], .other⟩ else none)
         else (bif Nat.blt t 389 then
          some ⟨1, 8, false, [.nilFunc], .other⟩
          else some ⟨1, 8, false, [.nilFunc], .other⟩)))))
     else (bif Nat.blt t 400 then
      (bif Nat.blt t 395 then
       (bif Nat.blt t 392 then
        (bif Nat.blt t 391 then
         some ⟨1, 8, false, [.pointer none], .other⟩
         else some ⟨1, 24, false, [.slice none 0 0], .slice 332⟩)
        else (bif Nat.blt t 393 then
         some ⟨1, 8, false, [.nilFunc], .other⟩
         else (bif Nat.blt t 394 then
          some ⟨1, 8, false, [.pointer none], .other⟩
          else some ⟨1, 8, false, [.nilFunc], .other⟩)))
       else (bif Nat.blt t 397 then
        (bif Nat.blt t 396 then
         some ⟨1, 8, false, [.nilFunc], .other⟩
         else some ⟨1, 8, false, [.nilFunc], .other⟩)
        else (bif Nat.blt t 398 then
         some ⟨1, 8, false, [.nilFunc], .other⟩
         else (bif Nat.blt t 399 then
          some ⟨1, 8, false, [.nilFunc], .other⟩
          else some ⟨1, 8, false, [.nilFunc], .other⟩))))
      else (bif Nat.blt t 405 then
       (bif Nat.blt t 402 then
        (bif Nat.blt t 401 then
         some ⟨1, 8, false, [.nilFunc], .other⟩
         else some ⟨1, 8, false, [.pointer none], .other⟩)
        else (bif Nat.blt t 403 then
         some ⟨1, 8, false, [.pointer none], .other⟩
         else (bif Nat.blt t 404 then
          some ⟨3, 24, true, [.pointer none, .int .i64 0, .int .i64 0], .struct [(0, 1), (1, 1), (2, 1)]⟩
          else some ⟨3, 24, true, [.pointer none, .int .i64 0, .int .i64 0], .struct [(0, 1), (1, 1), (2, 1)]⟩)))
       else (bif Nat.blt t 408 then
        (bif Nat.blt t 406 then
         some ⟨1, 8, false, [.nilFunc], .other⟩
         else (bif Nat.blt t 407 then
          some ⟨1, 8, false, [.nilFunc], .other⟩
          else some ⟨1, 8, false, [.nilFunc], .other⟩))
        else (bif Nat.blt t 409 then
         some ⟨32, 32, true, [.int .u8 0, .int .u8 0, .int .u8 0, .int .u8 0, .int .u8 0, .int .u8 0, .int .u8 0, .int .u8 0, .int .u8 0, .int .u8 0, .int .u8 0, .int .u8 0, .int .u8 0, .int .u8 0, .int .u8 0, .int .u8 0, .int .u8 0, .int .u8 0, .int .u8 0, .int .u8 0, .int .u8 0, .int .u8 0, .int .u8 0, .int .u8 0, .int .u8 0, .int .u8 0, .int .u8 0, .int .u8 0, .int .u8 0, .int .u8 0, .int .u8 0, .int .u8 0], .arr 32 5⟩
         else (bif Nat.blt t 411 then
          (bif Nat.beq t 409 then some ⟨64, 64, true, [.int .u8 0, .int .u8 0, .int .u8 0, .int .u8 0, .int .u8 0, .int .u8 0, .int .u8 0, .int .u8 0, .int .u8 0, .int .u8 0, .int .u8 0, .int .u8 0, .int .u8 0, .int .u8 0, .int .u8 0, .int .u8 0, .int .u8 0, .int .u8 0, .int .u8 0, .int .u8 0, .int .u8 0, .int .u8 0, .int .u8 0, .int .u8 0, .int .u8 0, .int .u8 0, .int .u8 0, .int .u8 0, .int .u8 0, .int .u8 0, .int .u8 0, .int .u8 0, .int .u8 0, .int .u8 0, .int .u8 0, .int .u8 0, .int .u8 0, .int .u8 0, .int .u8 0, .int .u8 0, .int .u8 0, .int .u8 0, .int .u8 0, .int .u8 0, .int .u8 0, .int .u8 0, .int .u8 0, .int .u8 0, .int .u8 0, .int .u8 0, .int .u8 0, .int .u8 0, .int .u8 0, .int .u8 0, .int .u8 0, .int .u8 0, .int .u8 0, .int .u8 0, .int .u8 0, .int .u8 0, .int .u8 0, .int .u8 0, .int .u8 0, .int .u8 0], .arr 64 5⟩ else none)
          else some ⟨1, 8, false, [.nilFunc], .other⟩))))))
    else (bif Nat.blt t 435 then
     (bif Nat.blt t 422 then
      (bif Nat.blt t 417 then
       (bif Nat.blt t 414 then
        (bif Nat.blt t 413 then
         some ⟨1, 8, false, [.nilFunc], .other⟩
         else some ⟨1, 8, false, [.nilFunc], .other⟩)
        else (bif Nat.blt t 415 then
         some ⟨1, 8, false, [.nilFunc], .other⟩
         else (bif Nat.blt t 416 then
          some ⟨1, 8, false, [.nilFunc], .other⟩
          else some ⟨1, 8, true, [.int .i64 0], .struct [(0, 1)]⟩)))
       else (bif Nat.blt t 419 then
        (bif Nat.blt t 418 then
         some ⟨1, 8, true, [.int .i64 0], .struct [(0, 1)]⟩
         else some ⟨1, 8, true, [.pointer none], .struct [(0, 1)]⟩)
        else (bif Nat.blt t 420 then
         some ⟨1, 8, true, [.pointer none], .struct [(0, 1)]⟩
         else (bif Nat.blt t 421 then
          some ⟨1, 8, false, [.nilFunc], .other⟩
          else some ⟨1, 8, false, [.nilFunc], .other⟩))))
      else (bif Nat.blt t 429 then
       (bif Nat.blt t 424 then
        (bif Nat.blt t 423 then
         some ⟨1, 8, false, [.nilFunc], .other⟩
         else some ⟨1, 8, false, [.nilFunc], .other⟩)
        else (bif Nat.blt t 426 then
         (bif Nat.beq t 424 then some ⟨1, 8, false, [.nilFunc], .other⟩ else none)
         else (bif Nat.blt t 427 then
          some ⟨1, 8, false, [.nilFunc], .other⟩
          else (bif Nat.beq t 427 then some ⟨1, 8, false, [.nilFunc], .other⟩ else none))))
       else (bif Nat.blt t 432 then
        (bif Nat.blt t 430 then
         some ⟨1, 8, false, [.nilFunc], .other⟩
         else (bif Nat.beq t 430 then some ⟨1, 8, false, [.nilFunc], .other⟩ else none))
        else (bif Nat.blt t 433 then
         some ⟨1, 8, false, [.nilFunc], .other⟩
         else (bif Nat.blt t 434 then
          some ⟨1, 8, false, [.nilFunc], .other⟩
          else some ⟨1, 8, false, [.nilFunc], .other⟩)))))
     else (bif Nat.blt t 447 then
      (bif Nat.blt t 440 then
       (bif Nat.blt t 437 then
        (bif Nat.blt t 436 then
         some ⟨1, 8, false, [.nilFunc], .other⟩
         else some ⟨27, 216, true, [.pointer none, .int .i64 0, .int .i64 0, .pointer none, .int .i64 0, .int .i64 0, .pointer none, .int .i64 0, .int .i64 0, .pointer none, .int .i64 0, .int .i64 0, .pointer none, .int .i64 0, .int .i64 0, .pointer none, .int .i64 0, .int .i64 0, .pointer none, .int .i64 0, .int .i64 0, .pointer none, .int .i64 0, .int .i64 0, .pointer none, .int .i64 0, .int .i64 0], .arr 9 404⟩)
        else (bif Nat.blt t 438 then
         some ⟨1, 8, false, [.nilFunc], .other⟩
         else (bif Nat.blt t 439 then
          some ⟨1, 8, false, [.nilFunc], .other⟩
          else some ⟨1, 8, false, [.nilFunc], .other⟩)))
       else (bif Nat.blt t 444 then
        (bif Nat.blt t 442 then
         (bif Nat.beq t 440 then some ⟨1, 8, false, [.nilFunc], .other⟩ else none)
         else (bif Nat.beq t 442 then some ⟨1, 8, false, [.nilFunc], .other⟩ else none))
        else (bif Nat.blt t 445 then
         some ⟨1, 8, false, [.nilFunc], .other⟩
         else (bif Nat.blt t 446 then
          some ⟨4, 48, true, [.int .i64 0, .string ⟨#[]⟩, .string ⟨#[]⟩, .int .i64 0], .struct [(0, 1), (1, 1), (2, 1), (3, 1)]⟩
          else some ⟨4, 48, true, [.int .i64 0, .string ⟨#[]⟩, .string ⟨#[]⟩, .int .i64 0], .struct [(0, 1), (1, 1), (2, 1), (3, 1)]⟩))))
      else (bif Nat.blt t 453 then
       (bif Nat.blt t 449 then
        (bif Nat.blt t 448 then
         some ⟨5, 64, true, [.int .i64 0, .string ⟨#[]⟩, .string ⟨#[]⟩, .string ⟨#[]⟩, .bool false], .struct [(0, 1), (1, 1), (2, 1), (3, 1), (4, 1)]⟩
         else some ⟨5, 64, true, [.int .i64 0, .string ⟨#[]⟩, .string ⟨#[]⟩, .string ⟨#[]⟩, .bool false], .struct [(0, 1), (1, 1), (2, 1), (3, 1), (4, 1)]⟩)
        else (bif Nat.blt t 450 then
         some ⟨9, 112, true, [.int .i64 0, .string ⟨#[]⟩, .string ⟨#[]⟩, .int .i64 0, .int .i64 0, .string ⟨#[]⟩, .string ⟨#[]⟩, .string ⟨#[]⟩, .bool false], .struct [(0, 4), (4, 5)]⟩
         else (bif Nat.blt t 452 then
          (bif Nat.beq t 450 then some ⟨9, 112, true, [.int .i64 0, .string ⟨#[]⟩, .string ⟨#[]⟩, .int .i64 0, .int .i64 0, .string ⟨#[]⟩, .string ⟨#[]⟩, .string ⟨#[]⟩, .bool false], .struct [(0, 4), (4, 5)]⟩ else none)
          else some ⟨1, 8, false, [.nilFunc], .other⟩)))
       else (bif Nat.blt t 457 then
        (bif Nat.blt t 455 then
         (bif Nat.beq t 453 then some ⟨1, 8, false, [.nilFunc], .other⟩ else none)
         else (bif Nat.blt t 456 then
          some ⟨1, 8, false, [.nilFunc], .other⟩
          else some ⟨1, 8, false, [.nilFunc], .other⟩))
        else (bif Nat.blt t 458 then
         some ⟨1, 24, false, [.slice none 0 0], .slice 459⟩
         else (bif Nat.blt t 459 then
          some ⟨5, 80, true, [.int .i64 0, .int .i64 0, .string ⟨#[]⟩, .slice none 0 0, .slice none 0 0], .struct [(0, 1), (1, 1), (2, 1), (3, 1), (4, 1)]⟩
          else (bif Nat.beq t 459 then some ⟨5, 80, true, [.int .i64 0, .int .i64 0, .string ⟨#[]⟩, .slice none 0 0, .slice none 0 0], .struct [(0, 1), (1, 1), (2, 1), (3, 1), (4, 1)]⟩ else none))))))))
   else (bif Nat.blt t 507 then
    (bif Nat.blt t 484 then
     (bif Nat.blt t 473 then
      (bif Nat.blt t 466 then
       (bif Nat.blt t 463 then
        (bif Nat.blt t 462 then
         some ⟨1, 8, false, [.nilFunc], .other⟩
         else some ⟨4, 48, true, [.string ⟨#[]⟩, .string ⟨#[]⟩, .int .i64 0, .int .u64 0], .struct [(0, 1), (1, 1), (2, 1), (3, 1)]⟩)
        else (bif Nat.blt t 464 then
         some ⟨4, 48, true, [.string ⟨#[]⟩, .string ⟨#[]⟩, .int .i64 0, .int .u64 0], .struct [(0, 1), (1, 1), (2, 1), (3, 1)]⟩
         else (bif Nat.blt t 465 then
          some ⟨1, 8, false, [.nilFunc], .other⟩
          else some ⟨3, 32, true, [.string ⟨#[]⟩, .bool false, .int .i64 0], .struct [(0, 1), (1, 1), (2, 1)]⟩)))
       else (bif Nat.blt t 469 then
        (bif Nat.blt t 468 then
         (bif Nat.beq t 466 then some ⟨3, 32, true, [.string ⟨#[]⟩, .bool false, .int .i64 0], .struct [(0, 1), (1, 1), (2, 1)]⟩ else none)
         else some ⟨1, 8, false, [.nilFunc], .other⟩)
        else (bif Nat.blt t 470 then
         some ⟨1, 8, false, [.nilFunc], .other⟩
         else (bif Nat.blt t 472 then
          (bif Nat.beq t 470 then some ⟨1, 8, false, [.nilFunc], .other⟩ else none)
          else some ⟨1, 8, false, [.nilFunc], .other⟩))))
      else (bif Nat.blt t 479 then
       (bif Nat.blt t 475 then
        (bif Nat.blt t 474 then
         some ⟨1, 8, false, [.nilFunc], .other⟩
         else some ⟨1, 8, false, [.nilFunc], .other⟩)
        else (bif Nat.blt t 477 then
         (bif Nat.beq t 475 then some ⟨1, 24, false, [.slice none 0 0], .slice 483⟩ else none)
         else (bif Nat.blt t 478 then
          some ⟨1, 8, false, [.nilFunc], .other⟩
          else some ⟨1, 8, false, [.nilFunc], .other⟩)))
       else (bif Nat.blt t 481 then
        (bif Nat.blt t 480 then
         some ⟨1, 8, false, [.nilFunc], .other⟩
         else some ⟨1, 24, false, [.slice none 0 0], .slice 549⟩)
        else (bif Nat.blt t 482 then
         some ⟨1, 24, false, [.slice none 0 0], .slice 448⟩
         else (bif Nat.blt t 483 then
          some ⟨5, 80, true, [.int .i64 0, .string ⟨#[]⟩, .slice none 0 0, .slice none 0 0, .int .i64 0], .struct [(0, 1), (1, 1), (2, 1), (3, 1), (4, 1)]⟩
          else some ⟨5, 80, true, [.int .i64 0, .string ⟨#[]⟩, .slice none 0 0, .slice none 0 0, .int .i64 0], .struct [(0, 1), (1, 1), (2, 1), (3, 1), (4, 1)]⟩)))))
     else (bif Nat.blt t 494 then
      (bif Nat.blt t 489 then
       (bif Nat.blt t 486 then
        (bif Nat.blt t 485 then
         some ⟨1, 8, false, [.pointer none], .other⟩
         else some ⟨7, 96, true, [.pointer none, .pointer none, .int .i64 0, .string ⟨#[]⟩, .slice none 0 0, .slice none 0 0, .int .i64 0], .struct [(0, 1), (1, 1), (2, 5)]⟩)
        else (bif Nat.blt t 487 then
         some ⟨7, 96, true, [.pointer none, .pointer none, .int .i64 0, .string ⟨#[]⟩, .slice none 0 0, .slice none 0 0, .int .i64 0], .struct [(0, 1), (1, 1), (2, 5)]⟩
         else (bif Nat.blt t 488 then
          some ⟨1, 8, false, [.nilFunc], .other⟩
          else some ⟨0, 0, true, [], .struct []⟩)))
       else (bif Nat.blt t 491 then
        (bif Nat.blt t 490 then
         some ⟨1, 4, true, [.int .u32 0], .struct [(0, 0), (0, 1)]⟩
         else some ⟨1, 4, true, [.int .u32 0], .struct [(0, 0), (0, 1)]⟩)
        else (bif Nat.blt t 492 then
         some ⟨2, 8, true, [.int .i32 0, .int .u32 0], .struct [(0, 1), (1, 1)]⟩
         else (bif Nat.blt t 493 then
          some ⟨2, 8, true, [.int .i32 0, .int .u32 0], .struct [(0, 1), (1, 1)]⟩
          else some ⟨2, 8, true, [.int .i32 0, .int .u32 0], .struct [(0, 0), (0, 2)]⟩))))
      else (bif Nat.blt t 499 then
       (bif Nat.blt t 496 then
        (bif Nat.blt t 495 then
         some ⟨2, 8, true, [.int .i32 0, .int .u32 0], .struct [(0, 0), (0, 2)]⟩
         else some ⟨3, 12, true, [.int .u32 0, .int .i32 0, .int .u32 0], .struct [(0, 0), (0, 1), (1, 2)]⟩)
        else (bif Nat.blt t 497 then
         some ⟨3, 12, true, [.int .u32 0, .int .i32 0, .int .u32 0], .struct [(0, 0), (0, 1), (1, 2)]⟩
         else (bif Nat.blt t 498 then
          some ⟨1, 8, false, [.pointer none], .other⟩
          else some ⟨1, 8, false, [.map none], .other⟩)))
       else (bif Nat.blt t 503 then
        (bif Nat.blt t 500 then
         some ⟨6, 56, true, [.slice none 0 0, .int .u32 0, .int .i32 0, .int .u32 0, .pointer none, .map none], .struct [(0, 1), (1, 3), (4, 1), (5, 1)]⟩
         else (bif Nat.blt t 502 then
          (bif Nat.beq t 500 then some ⟨6, 56, true, [.slice none 0 0, .int .u32 0, .int .i32 0, .int .u32 0, .pointer none, .map none], .struct [(0, 1), (1, 3), (4, 1), (5, 1)]⟩ else none)
          else some ⟨1, 8, false, [.nilFunc], .other⟩))
        else (bif Nat.blt t 505 then
         (bif Nat.beq t 503 then some ⟨1, 24, false, [.slice none 0 0], .slice 529⟩ else none)
         else (bif Nat.blt t 506 then
          some ⟨1, 8, false, [.nilFunc], .other⟩
          else some ⟨1, 8, false, [.nilFunc], .other⟩))))))
    else (bif Nat.blt t 530 then
     (bif Nat.blt t 518 then
      (bif Nat.blt t 512 then
       (bif Nat.blt t 509 then
        (bif Nat.blt t 508 then
         some ⟨1, 8, false, [.nilFunc], .other⟩
         else some ⟨1, 8, false, [.nilFunc], .other⟩)
        else (bif Nat.blt t 510 then
         some ⟨1, 8, false, [.nilFunc], .other⟩
         else (bif Nat.blt t 511 then
          some ⟨1, 8, false, [.nilFunc], .other⟩
          else some ⟨1, 8, false, [.nilFunc], .other⟩)))
       else (bif Nat.blt t 515 then
        (bif Nat.blt t 513 then
         some ⟨1, 8, true, [.int .i64 0], .struct [(0, 1)]⟩
         else (bif Nat.beq t 513 then some ⟨1, 8, true, [.int .i64 0], .struct [(0, 1)]⟩ else none))
        else (bif Nat.blt t 516 then
         some ⟨1, 8, false, [.pointer none], .other⟩
         else (bif Nat.blt t 517 then
          some ⟨3, 24, true, [.pointer none, .int .i64 0, .int .i64 0], .struct [(0, 1), (1, 1), (2, 1)]⟩
          else some ⟨3, 24, true, [.pointer none, .int .i64 0, .int .i64 0], .struct [(0, 1), (1, 1), (2, 1)]⟩))))
      else (bif Nat.blt t 523 then
       (bif Nat.blt t 520 then
        (bif Nat.blt t 519 then
         some ⟨1, 8, false, [.nilFunc], .other⟩
         else some ⟨1, 8, false, [.nilFunc], .other⟩)
        else (bif Nat.blt t 521 then
         some ⟨1, 8, false, [.pointer none], .other⟩
         else (bif Nat.blt t 522 then
          some ⟨1, 8, false, [.nilFunc], .other⟩
          else some ⟨2, 16, true, [.nilFunc, .nilFunc], .struct [(0, 1), (1, 1)]⟩)))
       else (bif Nat.blt t 527 then
        (bif Nat.blt t 525 then
         (bif Nat.beq t 523 then some ⟨2, 16, true, [.nilFunc, .nilFunc], .struct [(0, 1), (1, 1)]⟩ else none)
         else (bif Nat.blt t 526 then
          some ⟨1, 8, false, [.nilFunc], .other⟩
          else some ⟨1, 8, false, [.nilFunc], .other⟩))
        else (bif Nat.blt t 528 then
         some ⟨1, 8, false, [.nilFunc], .other⟩
         else (bif Nat.blt t 529 then
          some ⟨3, 48, true, [.int .i64 0, .string ⟨#[]⟩, .slice none 0 0], .struct [(0, 1), (1, 1), (2, 1)]⟩
          else some ⟨3, 48, true, [.int .i64 0, .string ⟨#[]⟩, .slice none 0 0], .struct [(0, 1), (1, 1), (2, 1)]⟩)))))
     else (bif Nat.blt t 542 then
      (bif Nat.blt t 537 then
       (bif Nat.blt t 533 then
        (bif Nat.blt t 532 then
         (bif Nat.beq t 530 then some ⟨1, 8, false, [.nilFunc], .other⟩ else none)
         else some ⟨1, 8, false, [.nilFunc], .other⟩)
        else (bif Nat.blt t 534 then
         some ⟨1, 8, false, [.nilFunc], .other⟩
         else (bif Nat.blt t 536 then
          (bif Nat.beq t 534 then some ⟨1, 24, false, [.slice none 0 0], .slice 542⟩ else none)
          else some ⟨1, 8, false, [.nilFunc], .other⟩)))
       else (bif Nat.blt t 539 then
        (bif Nat.blt t 538 then
         some ⟨1, 8, false, [.pointer none], .other⟩
         else some ⟨4, 48, true, [.slice none 0 0, .int .i64 0, .int .i64 0, .int .i64 0], .struct [(0, 1), (1, 1), (2, 2)]⟩)
        else (bif Nat.blt t 540 then
         some ⟨4, 48, true, [.slice none 0 0, .int .i64 0, .int .i64 0, .int .i64 0], .struct [(0, 1), (1, 1), (2, 2)]⟩
         else (bif Nat.blt t 541 then
          some ⟨1, 8, false, [.nilFunc], .other⟩
          else some ⟨4, 40, true, [.int .i64 0, .string ⟨#[]⟩, .int .i64 0, .int .i64 0], .struct [(0, 1), (1, 1), (2, 1), (3, 1)]⟩))))
      else (bif Nat.blt t 547 then
       (bif Nat.blt t 544 then
        (bif Nat.blt t 543 then
         some ⟨4, 40, true, [.int .i64 0, .string ⟨#[]⟩, .int .i64 0, .int .i64 0], .struct [(0, 1), (1, 1), (2, 1), (3, 1)]⟩
         else some ⟨1, 8, false, [.nilFunc], .other⟩)
        else (bif Nat.blt t 545 then
         some ⟨1, 8, false, [.nilFunc], .other⟩
         else (bif Nat.blt t 546 then
          some ⟨1, 8, false, [.nilFunc], .other⟩
          else some ⟨1, 8, false, [.nilFunc], .other⟩)))
       else (bif Nat.blt t 550 then
        (bif Nat.blt t 548 then
         some ⟨1, 8, false, [.nilFunc], .other⟩
         else (bif Nat.blt t 549 then
          some ⟨5, 72, true, [.int .i64 0, .string ⟨#[]⟩, .int .i64 0, .string ⟨#[]⟩, .slice none 0 0], .struct [(0, 1), (1, 1), (2, 3)]⟩
          else some ⟨5, 72, true, [.int .i64 0, .string ⟨#[]⟩, .int .i64 0, .string ⟨#[]⟩, .slice none 0 0], .struct [(0, 1), (1, 1), (2, 3)]⟩))
        else (bif Nat.blt t 551 then
         some ⟨1, 8, false, [.nilFunc], .other⟩
         else (bif Nat.blt t 552 then
          some ⟨1, 8, false, [.nilFunc], .other⟩
          else some ⟨1, 8, false, [.nilFunc], .other⟩))))))))
  else (bif Nat.blt t 642 then
   (bif Nat.blt t 597 then
    (bif Nat.blt t 575 then
     (bif Nat.blt t 565 then
      (bif Nat.blt t 559 then
       (bif Nat.blt t 555 then
        (bif Nat.blt t 554 then
         some ⟨1, 8, false, [.nilFunc], .other⟩
         else some ⟨1, 8, false, [.nilFunc], .other⟩)
        else (bif Nat.blt t 556 then
         some ⟨1, 8, false, [.nilFunc], .other⟩
         else (bif Nat.blt t 557 then
          some ⟨1, 8, false, [.nilFunc], .other⟩
          else (bif Nat.beq t 557 then some ⟨1, 8, false, [.nilFunc], .other⟩ else none))))
       else (bif Nat.blt t 561 then
        (bif Nat.blt t 560 then
         some ⟨1, 8, false, [.nilFunc], .other⟩
         else some ⟨1, 8, false, [.nilFunc], .other⟩)
        else (bif Nat.blt t 563 then
         (bif Nat.beq t 561 then some ⟨1, 8, false, [.nilFunc], .other⟩ else none)
         else (bif Nat.blt t 564 then
          some ⟨1, 8, false, [.nilFunc], .other⟩
          else some ⟨1, 8, false, [.nilFunc], .other⟩))))
      else (bif Nat.blt t 570 then
       (bif Nat.blt t 567 then
        (bif Nat.blt t 566 then
         some ⟨1, 8, false, [.nilFunc], .other⟩
         else some ⟨1, 8, false, [.nilFunc], .other⟩)
        else (bif Nat.blt t 568 then
         some ⟨1, 8, false, [.pointer none], .other⟩
         else (bif Nat.blt t 569 then
          some ⟨1, 8, false, [.nilFunc], .other⟩
          else some ⟨2, 24, true, [.string ⟨#[]⟩, .int .i64 0], .struct [(0, 1), (1, 1)]⟩)))
       else (bif Nat.blt t 572 then
        (bif Nat.blt t 571 then
         some ⟨2, 24, true, [.string ⟨#[]⟩, .int .i64 0], .struct [(0, 1), (1, 1)]⟩
         else some ⟨1, 8, false, [.nilFunc], .other⟩)
        else (bif Nat.blt t 573 then
         some ⟨1, 8, false, [.nilFunc], .other⟩
         else (bif Nat.blt t 574 then
          some ⟨1, 8, false, [.pointer none], .other⟩
          else some ⟨1, 8, true, [.pointer none], .struct [(0, 1)]⟩)))))
     else (bif Nat.blt t 585 then
      (bif Nat.blt t 580 then
       (bif Nat.blt t 577 then
        (bif Nat.blt t 576 then
         some ⟨1, 8, true, [.pointer none], .struct [(0, 1)]⟩
         else some ⟨1, 8, false, [.nilFunc], .other⟩)
        else (bif Nat.blt t 578 then
         some ⟨1, 8, false, [.nilFunc], .other⟩
         else (bif Nat.blt t 579 then
          some ⟨1, 8, false, [.pointer none], .other⟩
          else some ⟨3, 48, true, [.string ⟨#[]⟩, .int .i64 0, .slice none 0 0], .struct [(0, 1), (1, 1), (2, 1)]⟩)))
       else (bif Nat.blt t 582 then
        (bif Nat.blt t 581 then
         some ⟨3, 48, true, [.string ⟨#[]⟩, .int .i64 0, .slice none 0 0], .struct [(0, 1), (1, 1), (2, 1)]⟩
         else some ⟨1, 8, false, [.nilFunc], .other⟩)
        else (bif Nat.blt t 583 then
         some ⟨1, 8, false, [.nilFunc], .other⟩
         else (bif Nat.blt t 584 then
          some ⟨1, 8, false, [.nilFunc], .other⟩
          else some ⟨1, 8, false, [.nilFunc], .other⟩))))
      else (bif Nat.blt t 590 then
       (bif Nat.blt t 587 then
        (bif Nat.blt t 586 then
         some ⟨1, 8, false, [.pointer none], .other⟩
         else some ⟨2, 32, true, [.slice none 0 0, .pointer none], .struct [(0, 1), (1, 1)]⟩)
        else (bif Nat.blt t 588 then
         some ⟨2, 32, true, [.slice none 0 0, .pointer none], .struct [(0, 1), (1, 1)]⟩
         else (bif Nat.blt t 589 then
          some ⟨1, 24, false, [.slice none 0 0], .slice 4⟩
          else some ⟨1, 8, false, [.nilFunc], .other⟩)))
       else (bif Nat.blt t 594 then
        (bif Nat.blt t 591 then
         some ⟨1, 8, false, [.nilFunc], .other⟩
         else (bif Nat.blt t 593 then
          (bif Nat.beq t 591 then some ⟨1, 8, false, [.nilFunc], .other⟩ else none)
          else some ⟨1, 8, false, [.nilFunc], .other⟩))
        else (bif Nat.blt t 595 then
         some ⟨1, 8, false, [.nilFunc], .other⟩
         else (bif Nat.blt t 596 then
          some ⟨1, 8, false, [.map none], .other⟩
          else some ⟨2, 32, true, [.map none, .slice none 0 0], .struct [(0, 1), (1, 1)]⟩))))))
    else (bif Nat.blt t 620 then
     (bif Nat.blt t 608 then
      (bif Nat.blt t 602 then
       (bif Nat.blt t 599 then
        (bif Nat.blt t 598 then
         some ⟨2, 32, true, [.map none, .slice none 0 0], .struct [(0, 1), (1, 1)]⟩
         else some ⟨1, 8, false, [.nilFunc], .other⟩)
        else (bif Nat.blt t 600 then
         some ⟨1, 8, false, [.nilFunc], .other⟩
         else (bif Nat.blt t 601 then
          some ⟨1, 8, false, [.nilFunc], .other⟩
          else some ⟨1, 8, false, [.nilFunc], .other⟩)))
       else (bif Nat.blt t 604 then
        (bif Nat.blt t 603 then
         some ⟨1, 8, false, [.nilFunc], .other⟩
         else some ⟨1, 8, false, [.int .i64 0], .int .i64⟩)
        else (bif Nat.blt t 606 then
         (bif Nat.beq t 604 then some ⟨1, 8, false, [.nilFunc], .other⟩ else none)
         else (bif Nat.blt t 607 then
          some ⟨1, 8, false, [.nilFunc], .other⟩
          else some ⟨1, 8, false, [.nilFunc], .other⟩))))
      else (bif Nat.blt t 615 then
       (bif Nat.blt t 612 then
        (bif Nat.blt t 611 then
         (bif Nat.beq t 608 then some ⟨1, 8, false, [.pointer none], .other⟩ else none)
         else some ⟨1, 8, false, [.nilFunc], .other⟩)
        else (bif Nat.blt t 613 then
         some ⟨1, 8, false, [.nilFunc], .other⟩
         else (bif Nat.blt t 614 then
          some ⟨1, 8, false, [.nilFunc], .other⟩
          else some ⟨1, 8, false, [.nilFunc], .other⟩)))
       else (bif Nat.blt t 617 then
        (bif Nat.blt t 616 then
         some ⟨1, 8, false, [.nilFunc], .other⟩
         else some ⟨1, 8, false, [.nilFunc], .other⟩)
        else (bif Nat.blt t 618 then
         some ⟨1, 8, false, [.pointer none], .other⟩
         else (bif Nat.blt t 619 then
          some ⟨1, 8, false, [.pointer none], .other⟩
          else some ⟨1, 8, false, [.nilFunc], .other⟩)))))
     else (bif Nat.blt t 630 then
      (bif Nat.blt t 625 then
       (bif Nat.blt t 622 then
        (bif Nat.blt t 621 then
         some ⟨1, 8, false, [.nilFunc], .other⟩
         else some ⟨1, 8, false, [.pointer none], .other⟩)
        else (bif Nat.blt t 623 then
         some ⟨1, 8, true, [.pointer none], .struct [(0, 1)]⟩
         else (bif Nat.blt t 624 then
          some ⟨1, 8, true, [.pointer none], .struct [(0, 1)]⟩
          else some ⟨1, 8, false, [.nilFunc], .other⟩)))
       else (bif Nat.blt t 627 then
        (bif Nat.blt t 626 then
         some ⟨1, 8, false, [.nilFunc], .other⟩
         else some ⟨1, 8, false, [.nilFunc], .other⟩)
        else (bif Nat.blt t 628 then
         some ⟨1, 8, false, [.pointer none], .other⟩
         else (bif Nat.blt t 629 then
          some ⟨1, 8, false, [.map none], .other⟩
          else some ⟨2, 16, true, [.map none, .map none], .struct [(0, 1), (1, 1)]⟩))))
      else (bif Nat.blt t 635 then
       (bif Nat.blt t 632 then
        (bif Nat.blt t 631 then
         some ⟨2, 16, true, [.map none, .map none], .struct [(0, 1), (1, 1)]⟩
         else some ⟨1, 8, false, [.nilFunc], .other⟩)
        else (bif Nat.blt t 633 then
         some ⟨1, 8, false, [.nilFunc], .other⟩
         else (bif Nat.blt t 634 then
          some ⟨1, 8, false, [.nilFunc], .other⟩
          else some ⟨1, 8, false, [.nilFunc], .other⟩)))
       else (bif Nat.blt t 638 then
        (bif Nat.blt t 636 then
         some ⟨1, 8, false, [.nilFunc], .other⟩
         else (bif Nat.blt t 637 then
          some ⟨1, 8, false, [.nilFunc], .other⟩
          else some ⟨1, 8, false, [.pointer none], .other⟩))
        else (bif Nat.blt t 639 then
         some ⟨1, 8, false, [.nilFunc], .other⟩
         else (bif Nat.blt t 641 then
          (bif Nat.beq t 639 then some ⟨1, 8, false, [.nilFunc], .other⟩ else none)
          else some ⟨1, 16, true, [.string ⟨#[]⟩], .struct [(0, 1)]⟩)))))))
   else (bif Nat.blt t 684 then
    (bif Nat.blt t 663 then
     (bif Nat.blt t 653 then
      (bif Nat.blt t 648 then
       (bif Nat.blt t 645 then
        (bif Nat.blt t 644 then
         (bif Nat.beq t 642 then some ⟨1, 16, true, [.string ⟨#[]⟩], .struct [(0, 1)]⟩ else none)
         else some ⟨1, 8, false, [.pointer none], .other⟩)
        else (bif Nat.blt t 646 then
         some ⟨1, 8, false, [.nilFunc], .other⟩
         else (bif Nat.blt t 647 then
          some ⟨1, 8, false, [.pointer none], .other⟩
          else some ⟨3, 24, true, [.pointer none, .pointer none, .int .i64 0], .struct [(0, 1), (1, 1), (2, 1)]⟩)))
       else (bif Nat.blt t 650 then
        (bif Nat.blt t 649 then
         some ⟨3, 24, true, [.pointer none, .pointer none, .int .i64 0], .struct [(0, 1), (1, 1), (2, 1)]⟩
         else some ⟨1, 8, false, [.nilFunc], .other⟩)
        else (bif Nat.blt t 651 then
         some ⟨1, 16, false, [.nilIface], .other⟩
         else (bif Nat.blt t 652 then
          some ⟨1, 16, false, [.nilIface], .other⟩
          else some ⟨1, 8, false, [.nilFunc], .other⟩))))
      else (bif Nat.blt t 658 then
       (bif Nat.blt t 655 then
        (bif Nat.blt t 654 then
         some ⟨1, 8, false, [.nilFunc], .other⟩
         else some ⟨1, 8, false, [.nilFunc], .other⟩)
        else (bif Nat.blt t 656 then
         some ⟨1, 8, false, [.nilFunc], .other⟩
         else (bif Nat.blt t 657 then
          some ⟨1, 8, false, [.nilFunc], .other⟩
          else some ⟨1, 8, false, [.nilFunc], .other⟩)))
       else (bif Nat.blt t 660 then
        (bif Nat.blt t 659 then
         some ⟨1, 8, false, [.nilFunc], .other⟩
         else some ⟨1, 8, false, [.pointer none], .other⟩)
        else (bif Nat.blt t 661 then
         some ⟨1, 8, false, [.nilFunc], .other⟩
         else (bif Nat.blt t 662 then
          some ⟨1, 8, false, [.pointer none], .other⟩
          else some ⟨1, 8, false, [.nilFunc], .other⟩)))))
     else (bif Nat.blt t 673 then
      (bif Nat.blt t 668 then
       (bif Nat.blt t 665 then
        (bif Nat.blt t 664 then
         some ⟨1, 8, false, [.nilFunc], .other⟩
         else some ⟨1, 8, false, [.nilFunc], .other⟩)
        else (bif Nat.blt t 666 then
         some ⟨1, 8, false, [.nilFunc], .other⟩
         else (bif Nat.blt t 667 then
          some ⟨2, 24, true, [.string ⟨#[]⟩, .pointer none], .struct [(0, 1), (1, 1)]⟩
          else some ⟨2, 24, true, [.string ⟨#[]⟩, .pointer none], .struct [(0, 1), (1, 1)]⟩)))
       else (bif Nat.blt t 670 then
        (bif Nat.blt t 669 then
         some ⟨1, 8, false, [.nilFunc], .other⟩
         else some ⟨1, 8, false, [.nilFunc], .other⟩)
        else (bif Nat.blt t 671 then
         some ⟨2, 16, true, [.int .i64 0, .int .i64 0], .struct [(0, 1), (1, 1)]⟩
         else (bif Nat.blt t 672 then
          some ⟨2, 16, true, [.int .i64 0, .int .i64 0], .struct [(0, 1), (1, 1)]⟩
          else some ⟨1, 1, true, [.bool false], .struct [(0, 1)]⟩))))
      else (bif Nat.blt t 678 then
       (bif Nat.blt t 675 then
        (bif Nat.blt t 674 then
         some ⟨1, 1, true, [.bool false], .struct [(0, 1)]⟩
         else some ⟨0, 0, true, [], .struct []⟩)
        else (bif Nat.blt t 676 then
         some ⟨0, 0, true, [], .struct []⟩
         else (bif Nat.blt t 677 then
          some ⟨1, 8, true, [.int .i64 0], .struct [(0, 1)]⟩
          else some ⟨1, 8, true, [.int .i64 0], .struct [(0, 1)]⟩)))
       else (bif Nat.blt t 681 then
        (bif Nat.blt t 679 then
         some ⟨1, 8, false, [.nilFunc], .other⟩
         else (bif Nat.blt t 680 then
          some ⟨1, 8, false, [.nilFunc], .other⟩
          else some ⟨1, 8, false, [.nilFunc], .other⟩))
        else (bif Nat.blt t 682 then
         some ⟨1, 8, false, [.pointer none], .other⟩
         else (bif Nat.blt t 683 then
          some ⟨1, 8, false, [.nilFunc], .other⟩
          else some ⟨1, 8, false, [.nilFunc], .other⟩))))))
    else (bif Nat.blt t 707 then
     (bif Nat.blt t 695 then
      (bif Nat.blt t 690 then
       (bif Nat.blt t 686 then
        (bif Nat.blt t 685 then
         some ⟨1, 8, false, [.nilFunc], .other⟩
         else some ⟨1, 8, false, [.nilFunc], .other⟩)
        else (bif Nat.blt t 687 then
         some ⟨1, 8, false, [.nilFunc], .other⟩
         else (bif Nat.blt t 689 then
          (bif Nat.beq t 687 then some ⟨1, 8, false, [.int .i64 0], .int .i64⟩ else none)
          else some ⟨1, 8, false, [.nilFunc], .other⟩)))
       else (bif Nat.blt t 692 then
        (bif Nat.blt t 691 then
         some ⟨1, 8, false, [.nilFunc], .other⟩
         else some ⟨1, 8, false, [.nilFunc], .other⟩)
        else (bif Nat.blt t 693 then
         some ⟨1, 8, false, [.nilFunc], .other⟩
         else (bif Nat.blt t 694 then
          some ⟨1, 8, false, [.pointer none], .other⟩
          else some ⟨1, 8, false, [.nilFunc], .other⟩))))
      else (bif Nat.blt t 700 then
       (bif Nat.blt t 697 then
        (bif Nat.blt t 696 then
         some ⟨1, 8, false, [.pointer none], .other⟩
         else some ⟨1, 8, false, [.nilFunc], .other⟩)
        else (bif Nat.blt t 698 then
         some ⟨1, 8, false, [.nilFunc], .other⟩
         else (bif Nat.blt t 699 then
          some ⟨1, 8, false, [.nilFunc], .other⟩
          else some ⟨1, 8, false, [.nilFunc], .other⟩)))
       else (bif Nat.blt t 703 then
        (bif Nat.blt t 701 then
         some ⟨1, 8, false, [.int .u64 0], .int .u64⟩
         else (bif Nat.blt t 702 then
          some ⟨1, 8, false, [.nilFunc], .other⟩
          else some ⟨1, 8, false, [.nilFunc], .other⟩))
        else (bif Nat.blt t 704 then
         some ⟨1, 8, false, [.nilFunc], .other⟩
         else (bif Nat.blt t 705 then
          some ⟨1, 8, false, [.nilFunc], .other⟩
          else (bif Nat.beq t 705 then some ⟨1, 8, false, [.pointer none], .other⟩ else none))))))
     else (bif Nat.blt t 717 then
      (bif Nat.blt t 712 then
       (bif Nat.blt t 709 then
        (bif Nat.blt t 708 then
         some ⟨1, 8, false, [.nilFunc], .other⟩
         else some ⟨4, 40, true, [.pointer none, .pointer none, .pointer none, .string ⟨#[]⟩], .struct [(0, 1), (1, 1), (2, 1), (3, 1)]⟩)
        else (bif Nat.blt t 710 then
         some ⟨4, 40, true, [.pointer none, .pointer none, .pointer none, .string ⟨#[]⟩], .struct [(0, 1), (1, 1), (2, 1), (3, 1)]⟩
         else (bif Nat.blt t 711 then
          some ⟨0, 0, true, [], .arr 0 16⟩
          else some ⟨0, 0, true, [], .struct [(0, 0)]⟩)))
       else (bif Nat.blt t 714 then
        (bif Nat.blt t 713 then
         some ⟨0, 0, true, [], .struct [(0, 0)]⟩
         else some ⟨1, 1, false, [.int .u8 0], .int .u8⟩)
        else (bif Nat.blt t 715 then
         some ⟨1, 1, false, [.int .u8 0], .int .u8⟩
         else (bif Nat.blt t 716 then
          some ⟨1, 8, false, [.nilFunc], .other⟩
          else some ⟨1, 4, false, [.int .i32 0], .int .i32⟩))))
      else (bif Nat.blt t 723 then
       (bif Nat.blt t 719 then
        (bif Nat.blt t 718 then
         some ⟨1, 4, false, [.int .i32 0], .int .i32⟩
         else some ⟨11, 48, true, [.int .u64 0, .int .u64 0, .int .u32 0, .int .u8 0, .int .u8 0, .int .u8 0, .int .u8 0, .nilFunc, .pointer none, .int .i32 0, .int .i32 0], .struct [(0, 1), (1, 1), (2, 1), (3, 1), (4, 1), (5, 1), (6, 1), (7, 1), (8, 1), (9, 1), (10, 1)]⟩)
        else (bif Nat.blt t 721 then
         (bif Nat.beq t 719 then some ⟨11, 48, true, [.int .u64 0, .int .u64 0, .int .u32 0, .int .u8 0, .int .u8 0, .int .u8 0, .int .u8 0, .nilFunc, .pointer none, .int .i32 0, .int .i32 0], .struct [(0, 1), (1, 1), (2, 1), (3, 1), (4, 1), (5, 1), (6, 1), (7, 1), (8, 1), (9, 1), (10, 1)]⟩ else none)
         else (bif Nat.blt t 722 then
          some ⟨1, 8, false, [.nilFunc], .other⟩
          else some ⟨1, 8, false, [.nilFunc], .other⟩)))
       else (bif Nat.blt t 726 then
        (bif Nat.blt t 724 then
         some ⟨1, 8, false, [.nilFunc], .other⟩
         else (bif Nat.blt t 725 then
          some ⟨1, 8, false, [.nilFunc], .other⟩
          else some ⟨1, 8, false, [.nilFunc], .other⟩))
        else (bif Nat.blt t 727 then
         some ⟨1, 8, false, [.nilFunc], .other⟩
         else (bif Nat.blt t 728 then
          some ⟨1, 8, false, [.nilFunc], .other⟩
          else some ⟨1, 8, false, [.nilFunc], .other⟩))))))))))
def Tryz.tab : Tab := mkTab 729 Tryz.tabF
theorem Tryz.tabOK : TabOK Tryz.prog Tryz.tab := Go.Sy.tabOK (by kernel_rfl)

theorem Tryz.wide_ : Tryz.prog.follows .mixedOrders = true := by kernel_rfl
end Go.Proofs

namespace Go.Sy
open Go.RowKit Go.WideShapes Go.ChangeShapes

end Go.Sy

set_option maxRecDepth 100000
namespace Go.Proofs.YtpkbclagmkgpkaaGreatDoor
open Go.Sy Go.RowKit Go.ChangeShapes Go.WideShapes Go.ChangeAt

theorem own : ownKnob Tryz.prog.godebug = none := by kernel_rfl
theorem handed_laid_shaped {H : Type} {enc : TypeId × Value → H} {a : Assume} {C : Checked} {os : Os} {f : FuncId} {fn : Func} {s : ChangeSpec} {conds : List PathCond} {apart fresh handsOn again : Bool} {Y : World → Prop} (hY : ∀ w w' : World, w.heap = w'.heap → Y w → Y w')
    (own : ownKnob C.prog.godebug = none) (started : os.Started) (noInit : C.prog.inits.idxOf? f = none) (hfn : C.prog.funcs[f]? = some fn)
    (witness : ∃ (w : World) (tape : Tape) (i : Input), w.os = os ∧ (w.forCall tape i).Shaped C.prog ∧ i.vars = [] ∧ Input.okWide C.prog (w.forCall tape i) .any w.heap.size f i ∧
      ((s.pre enc C.prog fn conds apart (w.forCall tape i).memory i.args ∧ Y (w.forCall tape i).memory) ∧ sizedMet enc C.prog fn (OpenSpec.ofChange s) apart (w.forCall tape i).memory i.args) ∧ a.holds C.prog (lone (Frame.enter C.prog f i.args .normal) [] (w.forCall tape i)))
    (k : ∀ (W : World) (base : Nat) (args : Array Value) (ds gs : List (DataW H)) (before : List MemPlace), (∀ (j : Nat) t v, fn.params[j]? = some t → args[j]? = some v → Value.okWide C.prog W .any base t v) → DataW.Whole enc C.prog fn.params.toList s.vars apart W args.toList ds gs before → Y W → W.ShapedOpen C.prog →
      Calls C.prog f args W fun e W' => ∃ v, e = .returned v ∧ s.post enc C.prog fn apart fresh handsOn again W args v W') :
    ReturnsInHanded a C os f .any (fun w args => (s.pre enc C.prog fn conds apart w args ∧ Y w) ∧ sizedMet enc C.prog fn (OpenSpec.ofChange s) apart w args) (s.post enc C.prog fn apart fresh handsOn again) := by
  refine returnsInHanded_of_calls own started noInit witness ?_
  rintro w tape i - hsh - ⟨-, -, -, g, hg, -, -, -, -, hval⟩ ⟨⟨⟨ds, gs, before, hw, -⟩, hy⟩, -⟩ -
  cases Option.some.inj (hg.symm.trans hfn)
  exact (k (w.forCall tape i) w.heap.size i.args ds gs before hval (DataW.Whole.of_heap (w := (w.forCall tape i).memory) (w' := w.forCall tape i) (by rfl) hw) (hY (w.forCall tape i).memory (w.forCall tape i) (by rfl) hy) hsh).mono (fun e W' ⟨v, he, hp⟩ => he ▸ ChangeSpec.post_blind hp)
theorem goes_none {P : Program} (h : P.funcs.toList.any Func.goes = false) (c : OpenClaim) (hs : c.start = .entering) : false = c.goesBy P := by
  have h1 : ∀ g : Nat, (P.funcs[g]?).any Func.goes = false := fun g => by
    cases hg : P.funcs[g]? with
    | none => rfl
    | some fn =>
      have hm : fn ∈ P.funcs.toList := by
        rw [Array.mem_toList_iff]
        exact Array.mem_of_getElem? hg
      show Func.goes fn = false
      rw [List.any_eq_false] at h
      simpa using h fn hm
  have h2 : ∀ f, P.goes f = false := fun f => by
    unfold Program.goes
    rw [Bool.or_eq_false_iff]
    refine ⟨?_, ?_⟩
    · rw [List.any_eq_false]
      intro g _
      rw [h1 g]
      decide
    · have : P.funcs.any Func.goes = false := by
        rw [← Array.any_toList]
        exact h
      rw [this, Bool.and_false]
  unfold OpenClaim.goesBy Program.goesAt Program.goesFrom
  rw [hs]
  cases P.funcNamed c.func with
  | none => rfl
  | some f => show false = (P.goes f || false); rw [h2 f]; rfl
theorem noGo : Tryz.prog.funcs.toList.any Func.goes = false := by kernel_rfl
end Go.Proofs.YtpkbclagmkgpkaaGreatDoor

namespace Go.Sy
open Go.RowKit Go.WideShapes Go.ChangeShapes

end Go.Sy

namespace Go.Sy
open Go.RowKit

section
variable {P : Program} {T : Tab} {X : Ctx P T} {n : Nat} {e : Env} {st : St} {a : Act} {w : World} {ops : Array Oper} {K : St → Prop}

end
end Go.Sy

namespace Go.Sy
open Go.RowKit

section
variable {P : Program} {T : Tab} {X : Ctx P T} {n : Nat} {e : Env} {st : St} {a : Act} {w : World} {ops : Array Oper} {K : St → Prop}

end
end Go.Sy

namespace Go.Sy
open Go.RowKit

section
variable {P : Program} {T : Tab} {X : Ctx P T} {n : Nat} {e : Env} {st : St} {a : Act} {w : World} {ops : Array Oper} {K : St → Prop}

end
end Go.Sy

namespace Go.Sy
open Go.RowKit Go.MapKept
section
variable {P : Program} {T : Tab} {X : Ctx P T} {n : Nat} {ops : Array Oper}
theorem X_ins (q : Nat) {α : Type} [DecidableEq α] {kt et mt : TypeId} (K : Key P kt α) {p : Pl} {b : Nat} {es : List (α × AV)} {m x y : Operand} {k : α} {av : AV} {ty : TypeId} {pos : String} {aft : Array Edge} {gd : Option (Nat × Bool)} {j : Nat} {Si : List (Nat × AV)} {c cr : List Ch}
    (hm : P.underlying mt = some (.map kt et)) (hsb : ∀ k, Instr.sameBits 10000 (K.kv k) (K.kv k) = true)
    (hg : guardA ops ⟨Si, c⟩ ⟨none, .insert mt m x y, ty, pos, aft, gd⟩ = some true) (hmo : opd Si m = some (.v (.map (some b)))) (hx : opd Si x = some (.v (K.kv k))) (hy : opd Si y = some av) (himm : av.imm = true) (hp : nthA q c = some (mapA K.kv (some b) es, cr)) :
    StepX X n ops p Si c (.abs (mapA K.kv (some b) (updE k av es)) :: cr) j ⟨none, .insert mt m x y, ty, pos, aft, gd⟩ .bad :=
  StepX.skip hg rfl (fun e a w S r r' => by
    have h1 := opd_sound r' hmo
    have h2 := opd_sound r' hx
    have h3 := opd_sound r' hy
    simp only [Rep] at h1 h2
    obtain ⟨⟨arr, cl, g1, g2, g3, g4, g5⟩, _⟩ := r.heap.nth hp
    have hlt : b < w.heap.size := (Array.getElem?_eq_some_iff.1 g1).1
    have fin : ∀ (arr' : Array MapEntry) (cl' : Nat), (Instr.mapUpdate mt (.map (some b)) (K.kv k) (a.eval y)).run P w = .ok () { w with heap := w.heap.setIfInBounds b (.map arr' cl') } →
        arr'.toList.map (·.key) = (updE k av es).map (fun q => K.kv q.1) → RepIT e.G ((updE k av es).map (·.2)) (arr'.toList.map (·.val)) → (arr'.toList.map (·.born)).Nodup → (∀ x ∈ arr'.toList, x.born < cl') →
        ∃ w' e', (execOp a.eval ⟨none, .insert mt m x y, ty, pos, aft, gd⟩).run P w = .ok .skip w' ∧ Rel X n e' ⟨S, .abs (mapA K.kv (some b) (updE k av es)) :: cr⟩ a w' := by
      intro arr' cl' hrun k1 k2 k3 k4
      refine ⟨{ w with heap := w.heap.setIfInBounds b (.map arr' cl') }, e, by simp only [execOp, h1, h2, Sem.run_bind, hrun, Result.andThen_ok, Sem.run_pure], r.absTurn (st := ⟨S, c⟩) hp rfl ⟨arr', cl', by simp [hlt], k1, k2, k3, k4⟩ (fun b' hb' => ?_) ⟨rfl, rfl, rfl⟩ (by simp)⟩
      have hne : b ≠ b' := fun hh => hb' (by subst hh; simp [mapA])
      simp [hne]
    rcases find_map K e.G k arr.toList es 0 g2 g3 with ⟨f1, f2⟩ | ⟨jj, en, xx, f1, f2, f3, f4, f5, f6⟩
    · have hf := run_findKey (w := w) K.hd f1
      refine fin (arr.push ⟨K.kv k, a.eval y, cl⟩) (cl + 1) ?_ ?_ ?_ ?_ ?_
      · simp [Instr.mapUpdate, run_underlying hm, MapKept.run_getObj_map g1, run_checkKey K.hd (K.ik k), hf, MapKept.run_setObj_map _ g1]
      · rw [updE_new f2]; simp [g2]
      · rw [updE_new f2]
        simp only [Array.toList_push, List.map_append, List.map_cons, List.map_nil]
        exact RepIT.app g3 (by simp only [RepIT]; exact ⟨_, [], rfl, Rep.toI av himm h3, rfl⟩)
      · simp only [Array.toList_push, List.map_append, List.map_cons, List.map_nil]
        refine List.nodup_append.2 ⟨g4, by simp, ?_⟩
        intro u hu v hv
        simp only [List.mem_singleton] at hv
        subst hv
        obtain ⟨xx, hxx, rfl⟩ := List.mem_map.1 hu
        exact Nat.ne_of_lt (g5 xx hxx)
      · intro xx hxx
        simp only [Array.toList_push, List.mem_append, List.mem_singleton] at hxx
        rcases hxx with hxx | rfl
        · exact Nat.lt_succ_of_lt (g5 xx hxx)
        · exact Nat.lt_succ_self _
    · rw [Nat.zero_add] at f1
      have hf := run_findKey (w := w) K.hd f1
      have f2' : arr[jj]? = some en := by simpa using f2
      obtain ⟨u1, u2⟩ := f6 av
      refine fin (arr.modify jj fun e => { e with key := K.kv k, val := a.eval y }) cl ?_ ?_ ?_ ?_ ?_
      · have hks : (Instr.keyThatStays (K.kv k) (K.kv k)).run P w = .ok (K.kv k) w := by simp [Instr.keyThatStays, hsb k]
        simp [Instr.mapUpdate, run_underlying hm, MapKept.run_getObj_map g1, run_checkKey K.hd (K.ik k), hf, f2', f3, hks, MapKept.run_setObj_map _ g1]
      · rw [u1, ← g2]; exact map_modify_key f2' f3.symm
      · rw [u2, map_modify_val f2']
        exact repIT_set jj g3 (Rep.toI av himm h3)
      · rw [map_modify_born (f := fun e => { e with key := K.kv k, val := a.eval y }) (fun e => rfl)]; exact g4
      · intro xx hxx
        have : xx.born ∈ (arr.modify jj fun e => { e with key := K.kv k, val := a.eval y }).toList.map (·.born) := List.mem_map.2 ⟨xx, hxx, rfl⟩
        rw [map_modify_born (f := fun e => { e with key := K.kv k, val := a.eval y }) (fun e => rfl)] at this
        obtain ⟨y', hy', e'⟩ := List.mem_map.1 this
        rw [← e']; exact g5 y' hy')

theorem X_idxP {p : Pl} {t el len sz g o : Nat} {x iop : Operand} {kk : IntKind} {i : Int} {d : Option Nat} {ty : TypeId} {pos : String} {aft : Array Edge} {gd : Option (Nat × Bool)} {j : Nat} {Si : List (Nat × AV)} {c : List Ch}
    {s0 b0 b1 : Nat} {ag0 ag1 : Bool} {zero z0 : List Value} {d0 : TD} (ht : T t = some ⟨s0, b0, ag0, zero, .arr len el⟩) (hel : T el = some ⟨sz, b1, ag1, z0, d0⟩) (h0 : 0 ≤ i) (h1 : i < len)
    (hg : guardA ops ⟨Si, c⟩ ⟨d, .indexAddr t x iop, ty, pos, aft, gd⟩ = some true) (hx : opd Si x = some (.v (.pointer (some ⟨g, o, none⟩)))) (hi : opd Si iop = some (.v (.int kk i))) (hd : dstOK n d = true) :
    StepX X n ops p Si c c j ⟨d, .indexAddr t x iop, ty, pos, aft, gd⟩ (.v (.pointer (some ⟨g, o + i.toNat * sz, none⟩))) :=
  StepX.val hg hd (fun e a w S r r' => by
    have hT := X.ok
    obtain ⟨dd, e4, _, e5⟩ := (hT _ _ ht).desc
    simp only [TDOK] at e5
    subst e5
    have hsz := fun w => hT.size hel w
    have e1 := opd_sound r' hx
    have e2 := opd_sound r' hi
    simp only [Rep] at e1 e2
    refine ⟨.pointer (some ⟨g, o + i.toNat * sz, none⟩), w, e, ?_, r, by simp [Rep]⟩
    simp only [execOp, e1, e2, Instr.indexAt, asIntOf, Instr.sureAddr, Sem.run_bind, Sem.run_pure, Result.andThen_ok, run_underlying e4, hsz]
    simp [run_underlying e4, h0, h1, hsz, add_addr])
end
end Go.Sy

namespace Go.Sy
open Go.RowKit Go.WideShapes Go.ChangeShapes

end Go.Sy
