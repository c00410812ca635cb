/- The table of the types of the great seat, as the walk wants it. -/
import Derived.Test.YtloefdcbeakibaaGreatDoorChecked
import Derived.KernelRfl
import Derived.Test.YtloefdcbeakibaaGreatDoorC4
import Derived.Test.YtloefdcbeakibaaGreatDoorC2
import Derived.Test.YtloefdcbeakibaaGreatDoorC3
import Derived.HandedShaped
import Derived.SizedLaws
import Derived.PinnedBridge
import Derived.Lay
import Derived.Test.YtloefdcbeakibaaGreatDoorRows
import Derived.Test.YtloefdcbeakibaaGreatDoorCards
import Derived.Test.YtloefdcbeakibaaGreatDoorTie
import Derived.Laws.StructEq
import Derived.RangeFuncNested
import Derived.OrdersIn
import Derived.StillTail
import Derived.RangeFuncBox
import Derived.RangeFuncLeaves
import Derived.Shelf.Abstract
import Derived.WalkKit
import Derived.OwnWalkIn
import Derived.TacticsInMore
import Derived.LoopNIn
import Derived.LoopIn
set_option linter.unusedSimpArgs false
set_option linter.unusedVariables false
namespace Go.Proofs
open Go.Sy
def Tryz.tabF : Tab := fun t =>
 (bif Nat.blt t 332 then
 (bif Nat.blt t 162 then
  (bif Nat.blt t 79 then
   (bif Nat.blt t 39 then
    (bif Nat.blt t 20 then
     (bif Nat.blt t 10 then
      (bif Nat.blt t 5 then
       (bif Nat.blt t 3 then
        (bif Nat.blt t 2 then
         (bif Nat.beq t 1 then some ⟨1, 8, false, [.nilFunc], .other⟩ else none)
         else some ⟨1, 8, false, [.int .i64 0], .int .i64⟩)
        else (bif Nat.blt t 4 then
         some ⟨1, 8, false, [.int .i64 0], .int .i64⟩
         else some ⟨1, 1, false, [.bool false], .bool⟩))
       else (bif Nat.blt t 7 then
        (bif Nat.blt t 6 then
         some ⟨1, 1, false, [.int .u8 0], .int .u8⟩
         else some ⟨1, 1, false, [.int .u8 0], .int .u8⟩)
        else (bif Nat.blt t 8 then
         some ⟨4, 24, true, [.int .i64 0, .int .i64 0, .bool false, .int .u8 0], .struct [(0, 1), (1, 1), (2, 1), (3, 1)]⟩
         else (bif Nat.blt t 9 then
          some ⟨4, 24, true, [.int .i64 0, .int .i64 0, .bool false, .int .u8 0], .struct [(0, 1), (1, 1), (2, 1), (3, 1)]⟩
          else some ⟨1, 16, false, [.string ⟨#[]⟩], .str⟩))))
      else (bif Nat.blt t 15 then
       (bif Nat.blt t 12 then
        (bif Nat.blt t 11 then
         some ⟨1, 16, false, [.string ⟨#[]⟩], .str⟩
         else some ⟨1, 16, false, [.string ⟨#[]⟩], .str⟩)
        else (bif Nat.blt t 13 then
         some ⟨1, 8, false, [.int .u64 0], .int .u64⟩
         else (bif Nat.blt t 14 then
          some ⟨2, 24, true, [.string ⟨#[]⟩, .int .u64 0], .struct [(0, 1), (1, 1)]⟩
          else some ⟨2, 24, true, [.string ⟨#[]⟩, .int .u64 0], .struct [(0, 1), (1, 1)]⟩)))
       else (bif Nat.blt t 17 then
        (bif Nat.blt t 16 then
         some ⟨1, 8, false, [.pointer none], .other⟩
         else some ⟨1, 8, false, [.pointer none], .other⟩)
        else (bif Nat.blt t 18 then
         some ⟨1, 8, false, [.pointer none], .other⟩
         else (bif Nat.blt t 19 then
          some ⟨1, 8, true, [.pointer none], .struct [(0, 1)]⟩
          else some ⟨1, 8, true, [.pointer none], .struct [(0, 1)]⟩)))))
     else (bif Nat.blt t 29 then
      (bif Nat.blt t 24 then
       (bif Nat.blt t 22 then
        (bif Nat.blt t 21 then
         some ⟨1, 16, false, [.nilIface], .other⟩
         else some ⟨1, 4, false, [.int .i32 0], .int .i32⟩)
        else (bif Nat.blt t 23 then
         some ⟨1, 24, false, [.slice none 0 0], .slice 36⟩
         else some ⟨1, 24, false, [.slice none 0 0], .slice 39⟩))
       else (bif Nat.blt t 26 then
        (bif Nat.blt t 25 then
         some ⟨1, 8, false, [.nilFunc], .other⟩
         else some ⟨1, 8, false, [.pointer none], .other⟩)
        else (bif Nat.blt t 27 then
         some ⟨1, 8, false, [.nilFunc], .other⟩
         else (bif Nat.blt t 28 then
          some ⟨1, 8, false, [.nilFunc], .other⟩
          else some ⟨1, 8, false, [.int .i64 0], .int .i64⟩))))
      else (bif Nat.blt t 34 then
       (bif Nat.blt t 31 then
        (bif Nat.blt t 30 then
         some ⟨6, 64, true, [.int .i64 0, .int .i64 0, .int .i64 0, .string ⟨#[]⟩, .int .i64 0, .string ⟨#[]⟩], .struct [(0, 1), (1, 1), (2, 1), (3, 1), (4, 1), (5, 1)]⟩
         else some ⟨6, 64, true, [.int .i64 0, .int .i64 0, .int .i64 0, .string ⟨#[]⟩, .int .i64 0, .string ⟨#[]⟩], .struct [(0, 1), (1, 1), (2, 1), (3, 1), (4, 1), (5, 1)]⟩)
        else (bif Nat.blt t 32 then
         some ⟨8, 80, true, [.int .i64 0, .int .i64 0, .int .i64 0, .int .i64 0, .int .i64 0, .string ⟨#[]⟩, .int .i64 0, .string ⟨#[]⟩], .struct [(0, 1), (1, 1), (2, 6)]⟩
         else (bif Nat.blt t 33 then
          some ⟨8, 80, true, [.int .i64 0, .int .i64 0, .int .i64 0, .int .i64 0, .int .i64 0, .string ⟨#[]⟩, .int .i64 0, .string ⟨#[]⟩], .struct [(0, 1), (1, 1), (2, 6)]⟩
          else some ⟨1, 8, false, [.nilFunc], .other⟩)))
       else (bif Nat.blt t 36 then
        (bif Nat.blt t 35 then
         some ⟨6, 64, true, [.int .i64 0, .int .i64 0, .int .i64 0, .string ⟨#[]⟩, .int .i64 0, .string ⟨#[]⟩], .struct [(0, 1), (1, 1), (2, 1), (3, 1), (4, 1), (5, 1)]⟩
         else some ⟨8, 80, true, [.int .i64 0, .int .i64 0, .int .i64 0, .int .i64 0, .int .i64 0, .string ⟨#[]⟩, .int .i64 0, .string ⟨#[]⟩], .struct [(0, 1), (1, 1), (2, 6)]⟩)
        else (bif Nat.blt t 37 then
         some ⟨8, 80, true, [.int .i64 0, .int .i64 0, .int .i64 0, .int .i64 0, .int .i64 0, .string ⟨#[]⟩, .int .i64 0, .string ⟨#[]⟩], .struct [(0, 1), (1, 1), (2, 6)]⟩
         else (bif Nat.blt t 38 then
          some ⟨1, 8, false, [.nilFunc], .other⟩
          else some ⟨4, 40, true, [.int .i64 0, .int .i64 0, .string ⟨#[]⟩, .bool false], .struct [(0, 1), (1, 1), (2, 1), (3, 1)]⟩))))))
    else (bif Nat.blt t 59 then
     (bif Nat.blt t 48 then
      (bif Nat.blt t 43 then
       (bif Nat.blt t 41 then
        (bif Nat.blt t 40 then
         some ⟨4, 40, true, [.int .i64 0, .int .i64 0, .string ⟨#[]⟩, .bool false], .struct [(0, 1), (1, 1), (2, 1), (3, 1)]⟩
         else some ⟨1, 8, false, [.nilFunc], .other⟩)
        else (bif Nat.blt t 42 then
         some ⟨1, 8, false, [.nilFunc], .other⟩
         else some ⟨1, 8, false, [.nilFunc], .other⟩))
       else (bif Nat.blt t 45 then
        (bif Nat.blt t 44 then
         some ⟨1, 8, false, [.nilFunc], .other⟩
         else some ⟨1, 8, false, [.nilFunc], .other⟩)
        else (bif Nat.blt t 46 then
         some ⟨1, 8, false, [.nilFunc], .other⟩
         else (bif Nat.blt t 47 then
          some ⟨0, 0, true, [], .struct []⟩
          else some ⟨0, 0, true, [], .struct []⟩))))
      else (bif Nat.blt t 53 then
       (bif Nat.blt t 50 then
        (bif Nat.blt t 49 then
         some ⟨0, 0, true, [], .struct []⟩
         else some ⟨1, 8, true, [.int .i64 0], .struct [(0, 0), (0, 0), (0, 1)]⟩)
        else (bif Nat.blt t 51 then
         some ⟨1, 8, true, [.int .i64 0], .struct [(0, 0), (0, 0), (0, 1)]⟩
         else (bif Nat.blt t 52 then
          some ⟨10, 80, true, [.int .i64 0, .int .i64 0, .int .i64 0, .int .i64 0, .int .i64 0, .int .i64 0, .int .i64 0, .int .i64 0, .int .i64 0, .int .i64 0], .arr 10 50⟩
          else some ⟨21, 168, true, [.int .i64 0, .int .i64 0, .int .i64 0, .int .i64 0, .int .i64 0, .int .i64 0, .int .i64 0, .int .i64 0, .int .i64 0, .int .i64 0, .int .i64 0, .int .i64 0, .int .i64 0, .int .i64 0, .int .i64 0, .int .i64 0, .int .i64 0, .int .i64 0, .int .i64 0, .int .i64 0, .int .i64 0], .arr 21 50⟩)))
       else (bif Nat.blt t 55 then
        (bif Nat.blt t 54 then
         some ⟨9, 72, true, [.int .i64 0, .int .i64 0, .int .i64 0, .int .i64 0, .int .i64 0, .int .i64 0, .int .i64 0, .int .i64 0, .int .i64 0], .arr 9 50⟩
         else some ⟨44, 352, true, [.int .i64 0, .int .i64 0, .int .i64 0, .int .i64 0, .int .i64 0, .int .i64 0, .int .i64 0, .int .i64 0, .int .i64 0, .int .i64 0, .int .i64 0, .int .i64 0, .int .i64 0, .int .i64 0, .int .i64 0, .int .i64 0, .int .i64 0, .int .i64 0, .int .i64 0, .int .i64 0, .int .i64 0, .int .i64 0, .int .i64 0, .int .i64 0, .int .i64 0, .int .i64 0, .int .i64 0, .int .i64 0, .int .i64 0, .int .i64 0, .int .i64 0, .int .i64 0, .int .i64 0, .int .i64 0, .int .i64 0, .int .i64 0, .int .i64 0, .int .i64 0, .int .i64 0, .int .i64 0, .int .i64 0, .int .i64 0, .int .i64 0, .int .i64 0], .struct [(0, 10), (10, 21), (31, 9), (40, 1), (41, 1), (42, 1), (43, 1)]⟩)
        else (bif Nat.blt t 56 then
         some ⟨44, 352, true, [.int .i64 0, .int .i64 0, .int .i64 0, .int .i64 0, .int .i64 0, .int .i64 0, .int .i64 0, .int .i64 0, .int .i64 0, .int .i64 0, .int .i64 0, .int .i64 0, .int .i64 0, .int .i64 0, .int .i64 0, .int .i64 0, .int .i64 0, .int .i64 0, .int .i64 0, .int .i64 0, .int .i64 0, .int .i64 0, .int .i64 0, .int .i64 0, .int .i64 0, .int .i64 0, .int .i64 0, .int .i64 0, .int .i64 0, .int .i64 0, .int .i64 0, .int .i64 0, .int .i64 0, .int .i64 0, .int .i64 0, .int .i64 0, .int .i64 0, .int .i64 0, .int .i64 0, .int .i64 0, .int .i64 0, .int .i64 0, .int .i64 0, .int .i64 0], .struct [(0, 10), (10, 21), (31, 9), (40, 1), (41, 1), (42, 1), (43, 1)]⟩
         else (bif Nat.blt t 57 then
          some ⟨1, 8, false, [.nilFunc], .other⟩
          else (bif Nat.beq t 57 then some ⟨1, 8, false, [.nilFunc], .other⟩ else none))))))
     else (bif Nat.blt t 68 then
      (bif Nat.blt t 63 then
       (bif Nat.blt t 61 then
        (bif Nat.blt t 60 then
         some ⟨1, 8, false, [.nilFunc], .other⟩
         else some ⟨1, 8, false, [.nilFunc], .other⟩)
        else (bif Nat.blt t 62 then
         some ⟨1, 8, false, [.nilFunc], .other⟩
         else some ⟨1, 8, false, [.int .u64 0], .int .u64⟩))
       else (bif Nat.blt t 65 then
        (bif Nat.blt t 64 then
         some ⟨4, 40, true, [.int .i64 0, .int .i64 0, .int .u64 0, .string ⟨#[]⟩], .struct [(0, 1), (1, 1), (2, 1), (3, 1)]⟩
         else some ⟨4, 40, true, [.int .i64 0, .int .i64 0, .int .u64 0, .string ⟨#[]⟩], .struct [(0, 1), (1, 1), (2, 1), (3, 1)]⟩)
        else (bif Nat.blt t 66 then
         some ⟨1, 24, false, [.slice none 0 0], .slice 64⟩
         else (bif Nat.blt t 67 then
          some ⟨1, 8, false, [.nilFunc], .other⟩
          else some ⟨1, 8, false, [.pointer none], .other⟩))))
      else (bif Nat.blt t 74 then
       (bif Nat.blt t 70 then
        (bif Nat.blt t 69 then
         some ⟨1, 8, false, [.nilFunc], .other⟩
         else some ⟨1, 8, false, [.nilFunc], .other⟩)
        else (bif Nat.blt t 71 then
         some ⟨1, 8, false, [.nilFunc], .other⟩
         else (bif Nat.blt t 73 then
          (bif Nat.beq t 71 then some ⟨1, 8, false, [.nilFunc], .other⟩ else none)
          else some ⟨1, 8, false, [.nilFunc], .other⟩)))
       else (bif Nat.blt t 76 then
        (bif Nat.blt t 75 then
         some ⟨1, 8, false, [.nilFunc], .other⟩
         else some ⟨1, 8, false, [.nilFunc], .other⟩)
        else (bif Nat.blt t 77 then
         some ⟨1, 8, false, [.nilFunc], .other⟩
         else (bif Nat.blt t 78 then
          some ⟨1, 8, false, [.pointer none], .other⟩
          else some ⟨1, 24, false, [.slice none 0 0], .slice 5⟩)))))))
   else (bif Nat.blt t 118 then
    (bif Nat.blt t 99 then
     (bif Nat.blt t 89 then
      (bif Nat.blt t 84 then
       (bif Nat.blt t 81 then
        (bif Nat.blt t 80 then
         some ⟨2, 32, true, [.pointer none, .slice none 0 0], .struct [(0, 1), (1, 1)]⟩
         else some ⟨2, 32, true, [.pointer none, .slice none 0 0], .struct [(0, 1), (1, 1)]⟩)
        else (bif Nat.blt t 82 then
         some ⟨1, 16, false, [.nilIface], .other⟩
         else (bif Nat.beq t 82 then some ⟨1, 16, false, [.nilIface], .other⟩ else none)))
       else (bif Nat.blt t 86 then
        (bif Nat.blt t 85 then
         some ⟨1, 8, false, [.nilFunc], .other⟩
         else some ⟨1, 8, false, [.nilFunc], .other⟩)
        else (bif Nat.blt t 87 then
         some ⟨1, 8, false, [.nilFunc], .other⟩
         else (bif Nat.blt t 88 then
          some ⟨1, 24, false, [.slice none 0 0], .slice 32⟩
          else some ⟨1, 8, false, [.nilFunc], .other⟩))))
      else (bif Nat.blt t 94 then
       (bif Nat.blt t 91 then
        (bif Nat.blt t 90 then
         some ⟨1, 8, false, [.pointer none], .other⟩
         else some ⟨1, 8, false, [.nilFunc], .other⟩)
        else (bif Nat.blt t 92 then
         some ⟨1, 8, false, [.nilFunc], .other⟩
         else (bif Nat.blt t 93 then
          some ⟨1, 8, false, [.nilFunc], .other⟩
          else some ⟨1, 8, false, [.nilFunc], .other⟩)))
       else (bif Nat.blt t 96 then
        (bif Nat.blt t 95 then
         some ⟨1, 8, false, [.pointer none], .other⟩
         else some ⟨1, 24, false, [.slice none 0 0], .slice 9⟩)
        else (bif Nat.blt t 97 then
         some ⟨1, 8, false, [.nilFunc], .other⟩
         else (bif Nat.blt t 98 then
          some ⟨1, 8, false, [.nilFunc], .other⟩
          else some ⟨1, 8, false, [.nilFunc], .other⟩)))))
     else (bif Nat.blt t 108 then
      (bif Nat.blt t 103 then
       (bif Nat.blt t 101 then
        (bif Nat.blt t 100 then
         some ⟨1, 8, false, [.nilFunc], .other⟩
         else some ⟨1, 8, false, [.nilFunc], .other⟩)
        else (bif Nat.blt t 102 then
         some ⟨1, 8, false, [.nilFunc], .other⟩
         else some ⟨1, 8, false, [.pointer none], .other⟩))
       else (bif Nat.blt t 105 then
        (bif Nat.blt t 104 then
         some ⟨1, 8, false, [.nilFunc], .other⟩
         else some ⟨1, 8, false, [.pointer none], .other⟩)
        else (bif Nat.blt t 106 then
         some ⟨1, 8, false, [.nilFunc], .other⟩
         else (bif Nat.blt t 107 then
          some ⟨1, 8, false, [.pointer none], .other⟩
          else some ⟨1, 8, false, [.pointer none], .other⟩))))
      else (bif Nat.blt t 113 then
       (bif Nat.blt t 110 then
        (bif Nat.blt t 109 then
         some ⟨1, 8, false, [.nilFunc], .other⟩
         else some ⟨9, 72, true, [.int .i64 0, .int .i64 0, .int .i64 0, .int .i64 0, .int .i64 0, .int .i64 0, .int .i64 0, .int .i64 0, .int .i64 0], .struct [(0, 1), (1, 1), (2, 1), (3, 1), (4, 1), (5, 1), (6, 1), (7, 1), (8, 1)]⟩)
        else (bif Nat.blt t 111 then
         some ⟨9, 72, true, [.int .i64 0, .int .i64 0, .int .i64 0, .int .i64 0, .int .i64 0, .int .i64 0, .int .i64 0, .int .i64 0, .int .i64 0], .struct [(0, 1), (1, 1), (2, 1), (3, 1), (4, 1), (5, 1), (6, 1), (7, 1), (8, 1)]⟩
         else (bif Nat.blt t 112 then
          some ⟨1, 8, false, [.nilFunc], .other⟩
          else some ⟨1, 8, false, [.pointer none], .other⟩)))
       else (bif Nat.blt t 115 then
        (bif Nat.blt t 114 then
         some ⟨2, 16, true, [.pointer none, .pointer none], .struct [(0, 1), (1, 1)]⟩
         else some ⟨2, 16, true, [.pointer none, .pointer none], .struct [(0, 1), (1, 1)]⟩)
        else (bif Nat.blt t 116 then
         some ⟨1, 8, false, [.map none], .other⟩
         else (bif Nat.blt t 117 then
          some ⟨64, 512, true, [.int .u64 0, .int .u64 0, .int .u64 0, .int .u64 0, .int .u64 0, .int .u64 0, .int .u64 0, .int .u64 0, .int .u64 0, .int .u64 0, .int .u64 0, .int .u64 0, .int .u64 0, .int .u64 0, .int .u64 0, .int .u64 0, .int .u64 0, .int .u64 0, .int .u64 0, .int .u64 0, .int .u64 0, .int .u64 0, .int .u64 0, .int .u64 0, .int .u64 0, .int .u64 0, .int .u64 0, .int .u64 0, .int .u64 0, .int .u64 0, .int .u64 0, .int .u64 0, .int .u64 0, .int .u64 0, .int .u64 0, .int .u64 0, .int .u64 0, .int .u64 0, .int .u64 0, .int .u64 0, .int .u64 0, .int .u64 0, .int .u64 0, .int .u64 0, .int .u64 0, .int .u64 0, .int .u64 0, .int .u64 0, .int .u64 0, .int .u64 0, .int .u64 0, .int .u64 0, .int .u64 0, .int .u64 0, .int .u64 0, .int .u64 0, .int .u64 0, .int .u64 0, .int .u64 0, .int .u64 0, .int .u64 0, .int .u64 0, .int .u64 0, .int .u64 0], .arr 64 62⟩
          else some ⟨66, 528, true, [.int .u64 0, .int .u64 0, .int .u64 0, .int .u64 0, .int .u64 0, .int .u64 0, .int .u64 0, .int .u64 0, .int .u64 0, .int .u64 0, .int .u64 0, .int .u64 0, .int .u64 0, .int .u64 0, .int .u64 0, .int .u64 0, .int .u64 0, .int .u64 0, .int .u64 0, .int .u64 0, .int .u64 0, .int .u64 0, .int .u64 0, .int .u64 0, .int .u64 0, .int .u64 0, .int .u64 0, .int .u64 0, .int .u64 0, .int .u64 0, .int .u64 0, .int .u64 0, .int .u64 0, .int .u64 0, .int .u64 0, .int .u64 0, .int .u64 0, .int .u64 0, .int .u64 0, .int .u64 0, .int .u64 0, .int .u64 0, .int .u64 0, .int .u64 0, .int .u64 0, .int .u64 0, .int .u64 0, .int .u64 0, .int .u64 0, .int .u64 0, .int .u64 0, .int .u64 0, .int .u64 0, .int .u64 0, .int .u64 0, .int .u64 0, .int .u64 0, .int .u64 0, .int .u64 0, .int .u64 0, .int .u64 0, .int .u64 0, .int .u64 0, .int .u64 0, .int .i64 0, .int .i64 0], .struct [(0, 64), (64, 1), (65, 1)]⟩))))))
    else (bif Nat.blt t 137 then
     (bif Nat.blt t 127 then
      (bif Nat.blt t 122 then
       (bif Nat.blt t 120 then
        (bif Nat.blt t 119 then
         some ⟨66, 528, true, [.int .u64 0, .int .u64 0, .int .u64 0, .int .u64 0, .int .u64 0, .int .u64 0, .int .u64 0, .int .u64 0, .int .u64 0, .int .u64 0, .int .u64 0, .int .u64 0, .int .u64 0, .int .u64 0, .int .u64 0, .int .u64 0, .int .u64 0, .int .u64 0, .int .u64 0, .int .u64 0, .int .u64 0, .int .u64 0, .int .u64 0, .int .u64 0, .int .u64 0, .int .u64 0, .int .u64 0, .int .u64 0, .int .u64 0, .int .u64 0, .int .u64 0, .int .u64 0, .int .u64 0, .int .u64 0, .int .u64 0, .int .u64 0, .int .u64 0, .int .u64 0, .int .u64 0, .int .u64 0, .int .u64 0, .int .u64 0, .int .u64 0, .int .u64 0, .int .u64 0, .int .u64 0, .int .u64 0, .int .u64 0, .int .u64 0, .int .u64 0, .int .u64 0, .int .u64 0, .int .u64 0, .int .u64 0, .int .u64 0, .int .u64 0, .int .u64 0, .int .u64 0, .int .u64 0, .int .u64 0, .int .u64 0, .int .u64 0, .int .u64 0, .int .u64 0, .int .i64 0, .int .i64 0], .struct [(0, 64), (64, 1), (65, 1)]⟩
         else some ⟨1, 24, false, [.slice none 0 0], .slice 199⟩)
        else (bif Nat.blt t 121 then
         some ⟨1, 24, true, [.slice none 0 0], .struct [(0, 1)]⟩
         else some ⟨1, 24, true, [.slice none 0 0], .struct [(0, 1)]⟩))
       else (bif Nat.blt t 124 then
        (bif Nat.blt t 123 then
         some ⟨1, 8, false, [.map none], .other⟩
         else some ⟨1, 24, false, [.slice none 0 0], .slice 239⟩)
        else (bif Nat.blt t 125 then
         some ⟨2, 32, true, [.map none, .slice none 0 0], .struct [(0, 1), (1, 1)]⟩
         else (bif Nat.blt t 126 then
          some ⟨2, 32, true, [.map none, .slice none 0 0], .struct [(0, 1), (1, 1)]⟩
          else some ⟨1, 24, false, [.slice none 0 0], .slice 182⟩))))
      else (bif Nat.blt t 132 then
       (bif Nat.blt t 129 then
        (bif Nat.blt t 128 then
         some ⟨9, 216, true, [.slice none 0 0, .slice none 0 0, .slice none 0 0, .slice none 0 0, .slice none 0 0, .slice none 0 0, .slice none 0 0, .slice none 0 0, .slice none 0 0], .arr 9 126⟩
         else some ⟨11, 248, true, [.map none, .slice none 0 0, .slice none 0 0, .slice none 0 0, .slice none 0 0, .slice none 0 0, .slice none 0 0, .slice none 0 0, .slice none 0 0, .slice none 0 0, .slice none 0 0], .struct [(0, 2), (2, 9)]⟩)
        else (bif Nat.blt t 130 then
         some ⟨11, 248, true, [.map none, .slice none 0 0, .slice none 0 0, .slice none 0 0, .slice none 0 0, .slice none 0 0, .slice none 0 0, .slice none 0 0, .slice none 0 0, .slice none 0 0, .slice none 0 0], .struct [(0, 2), (2, 9)]⟩
         else (bif Nat.blt t 131 then
          some ⟨1, 8, false, [.map none], .other⟩
          else some ⟨1, 8, true, [.map none], .struct [(0, 1)]⟩)))
       else (bif Nat.blt t 134 then
        (bif Nat.blt t 133 then
         some ⟨1, 8, true, [.map none], .struct [(0, 1)]⟩
         else some ⟨82, 832, true, [.pointer none, .int .u64 0, .int .u64 0, .int .u64 0, .int .u64 0, .int .u64 0, .int .u64 0, .int .u64 0, .int .u64 0, .int .u64 0, .int .u64 0, .int .u64 0, .int .u64 0, .int .u64 0, .int .u64 0, .int .u64 0, .int .u64 0, .int .u64 0, .int .u64 0, .int .u64 0, .int .u64 0, .int .u64 0, .int .u64 0, .int .u64 0, .int .u64 0, .int .u64 0, .int .u64 0, .int .u64 0, .int .u64 0, .int .u64 0, .int .u64 0, .int .u64 0, .int .u64 0, .int .u64 0, .int .u64 0, .int .u64 0, .int .u64 0, .int .u64 0, .int .u64 0, .int .u64 0, .int .u64 0, .int .u64 0, .int .u64 0, .int .u64 0, .int .u64 0, .int .u64 0, .int .u64 0, .int .u64 0, .int .u64 0, .int .u64 0, .int .u64 0, .int .u64 0, .int .u64 0, .int .u64 0, .int .u64 0, .int .u64 0, .int .u64 0, .int .u64 0, .int .u64 0, .int .u64 0, .int .u64 0, .int .u64 0, .int .u64 0, .int .u64 0, .int .u64 0, .int .i64 0, .int .i64 0, .slice none 0 0, .map none, .slice none 0 0, .slice none 0 0, .slice none 0 0, .slice none 0 0, .slice none 0 0, .slice none 0 0, .slice none 0 0, .slice none 0 0, .slice none 0 0, .slice none 0 0, .map none, .map none, .int .i64 0], .struct [(0, 1), (1, 66), (67, 1), (68, 11), (79, 1), (80, 1), (81, 1)]⟩)
        else (bif Nat.blt t 135 then
         some ⟨82, 832, true, [.pointer none, .int .u64 0, .int .u64 0, .int .u64 0, .int .u64 0, .int .u64 0, .int .u64 0, .int .u64 0, .int .u64 0, .int .u64 0, .int .u64 0, .int .u64 0, .int .u64 0, .int .u64 0, .int .u64 0, .int .u64 0, .int .u64 0, .int .u64 0, .int .u64 0, .int .u64 0, .int .u64 0, .int .u64 0, .int .u64 0, .int .u64 0, .int .u64 0, .int .u64 0, .int .u64 0, .int .u64 0, .int .u64 0, .int .u64 0, .int .u64 0, .int .u64 0, .int .u64 0, .int .u64 0, .int .u64 0, .int .u64 0, .int .u64 0, .int .u64 0, .int .u64 0, .int .u64 0, .int .u64 0, .int .u64 0, .int .u64 0, .int .u64 0, .int .u64 0, .int .u64 0, .int .u64 0, .int .u64 0, .int .u64 0, .int .u64 0, .int .u64 0, .int .u64 0, .int .u64 0, .int .u64 0, .int .u64 0, .int .u64 0, .int .u64 0, .int .u64 0, .int .u64 0, .int .u64 0, .int .u64 0, .int .u64 0, .int .u64 0, .int .u64 0, .int .u64 0, .int .i64 0, .int .i64 0, .slice none 0 0, .map none, .slice none 0 0, .slice none 0 0, .slice none 0 0, .slice none 0 0, .slice none 0 0, .slice none 0 0, .slice none 0 0, .slice none 0 0, .slice none 0 0, .slice none 0 0, .map none, .map none, .int .i64 0], .struct [(0, 1), (1, 66), (67, 1), (68, 11), (79, 1), (80, 1), (81, 1)]⟩
         else (bif Nat.blt t 136 then
          some ⟨1, 8, false, [.pointer none], .other⟩
          else some ⟨1, 8, false, [.nilFunc], .other⟩)))))
     else (bif Nat.blt t 152 then
      (bif Nat.blt t 146 then
       (bif Nat.blt t 141 then
        (bif Nat.blt t 139 then
         (bif Nat.beq t 137 then some ⟨1, 8, false, [.nilFunc], .other⟩ else none)
         else (bif Nat.beq t 139 then some ⟨1, 8, false, [.nilFunc], .other⟩ else none))
        else (bif Nat.blt t 142 then
         some ⟨1, 8, false, [.nilFunc], .other⟩
         else (bif Nat.blt t 144 then
          (bif Nat.beq t 142 then some ⟨1, 24, false, [.slice none 0 0], .slice 30⟩ else none)
          else (bif Nat.beq t 144 then some ⟨1, 8, false, [.nilFunc], .other⟩ else none))))
       else (bif Nat.blt t 149 then
        (bif Nat.blt t 147 then
         some ⟨1, 8, false, [.nilFunc], .other⟩
         else (bif Nat.beq t 147 then some ⟨1, 8, false, [.nilFunc], .other⟩ else none))
        else (bif Nat.blt t 150 then
         some ⟨1, 8, false, [.nilFunc], .other⟩
         else (bif Nat.blt t 151 then
          some ⟨1, 8, false, [.nilFunc], .other⟩
          else some ⟨1, 8, false, [.pointer none], .other⟩))))
      else (bif Nat.blt t 157 then
       (bif Nat.blt t 154 then
        (bif Nat.blt t 153 then
         some ⟨1, 8, false, [.nilFunc], .other⟩
         else some ⟨1, 8, false, [.nilFunc], .other⟩)
        else (bif Nat.blt t 155 then
         some ⟨9, 72, true, [.int .i64 0, .int .i64 0, .int .i64 0, .int .i64 0, .int .i64 0, .int .i64 0, .int .i64 0, .int .i64 0, .int .i64 0], .arr 9 3⟩
         else (bif Nat.blt t 156 then
          some ⟨2, 16, true, [.int .i64 0, .int .u64 0], .struct [(0, 1), (1, 1)]⟩
          else some ⟨2, 16, true, [.int .i64 0, .int .u64 0], .struct [(0, 1), (1, 1)]⟩)))
       else (bif Nat.blt t 159 then
        (bif Nat.blt t 158 then
         some ⟨18, 144, true, [.int .i64 0, .int .u64 0, .int .i64 0, .int .u64 0, .int .i64 0, .int .u64 0, .int .i64 0, .int .u64 0, .int .i64 0, .int .u64 0, .int .i64 0, .int .u64 0, .int .i64 0, .int .u64 0, .int .i64 0, .int .u64 0, .int .i64 0, .int .u64 0], .arr 9 156⟩
         else some ⟨27, 216, true, [.int .i64 0, .int .i64 0, .int .i64 0, .int .i64 0, .int .i64 0, .int .i64 0, .int .i64 0, .int .i64 0, .int .i64 0, .int .i64 0, .int .u64 0, .int .i64 0, .int .u64 0, .int .i64 0, .int .u64 0, .int .i64 0, .int .u64 0, .int .i64 0, .int .u64 0, .int .i64 0, .int .u64 0, .int .i64 0, .int .u64 0, .int .i64 0, .int .u64 0, .int .i64 0, .int .u64 0], .struct [(0, 9), (9, 18)]⟩)
        else (bif Nat.blt t 160 then
         some ⟨27, 216, true, [.int .i64 0, .int .i64 0, .int .i64 0, .int .i64 0, .int .i64 0, .int .i64 0, .int .i64 0, .int .i64 0, .int .i64 0, .int .i64 0, .int .u64 0, .int .i64 0, .int .u64 0, .int .i64 0, .int .u64 0, .int .i64 0, .int .u64 0, .int .i64 0, .int .u64 0, .int .i64 0, .int .u64 0, .int .i64 0, .int .u64 0, .int .i64 0, .int .u64 0, .int .i64 0, .int .u64 0], .struct [(0, 9), (9, 18)]⟩
         else (bif Nat.blt t 161 then
          some ⟨3, 24, true, [.int .i64 0, .int .i64 0, .int .i64 0], .struct [(0, 1), (1, 1), (2, 1)]⟩
          else some ⟨3, 24, true, [.int .i64 0, .int .i64 0, .int .i64 0], .struct [(0, 1), (1, 1), (2, 1)]⟩))))))))
  else (bif Nat.blt t 250 then
   (bif Nat.blt t 206 then
    (bif Nat.blt t 184 then
     (bif Nat.blt t 172 then
      (bif Nat.blt t 166 then
       (bif Nat.blt t 164 then
        (bif Nat.blt t 163 then
         some ⟨1, 8, false, [.pointer none], .other⟩
         else some ⟨1, 8, false, [.nilFunc], .other⟩)
        else (bif Nat.blt t 165 then
         some ⟨2, 16, true, [.int .i64 0, .int .i64 0], .struct [(0, 1), (1, 1)]⟩
         else some ⟨2, 16, true, [.int .i64 0, .int .i64 0], .struct [(0, 1), (1, 1)]⟩))
       else (bif Nat.blt t 168 then
        (bif Nat.blt t 167 then
         some ⟨1, 8, false, [.pointer none], .other⟩
         else some ⟨1, 8, false, [.nilFunc], .other⟩)
        else (bif Nat.blt t 169 then
         some ⟨10, 80, true, [.int .i64 0, .int .i64 0, .int .i64 0, .int .i64 0, .int .i64 0, .int .i64 0, .int .i64 0, .int .i64 0, .int .i64 0, .bool false], .struct [(0, 3), (3, 2), (5, 2), (7, 2), (9, 1)]⟩
         else (bif Nat.blt t 170 then
          some ⟨10, 80, true, [.int .i64 0, .int .i64 0, .int .i64 0, .int .i64 0, .int .i64 0, .int .i64 0, .int .i64 0, .int .i64 0, .int .i64 0, .bool false], .struct [(0, 3), (3, 2), (5, 2), (7, 2), (9, 1)]⟩
          else (bif Nat.beq t 170 then some ⟨1, 8, false, [.nilFunc], .other⟩ else none)))))
      else (bif Nat.blt t 178 then
       (bif Nat.blt t 174 then
        (bif Nat.blt t 173 then
         some ⟨1, 8, false, [.nilFunc], .other⟩
         else some ⟨1, 8, false, [.nilFunc], .other⟩)
        else (bif Nat.blt t 175 then
         some ⟨1, 8, false, [.int .u64 0], .int .u64⟩
         else (bif Nat.blt t 177 then
          (bif Nat.beq t 175 then some ⟨1, 24, false, [.slice none 0 0], .slice 179⟩ else none)
          else some ⟨1, 8, false, [.nilFunc], .other⟩)))
       else (bif Nat.blt t 180 then
        (bif Nat.blt t 179 then
         some ⟨3, 32, true, [.int .i64 0, .int .i64 0, .string ⟨#[]⟩], .struct [(0, 1), (1, 1), (2, 1)]⟩
         else some ⟨3, 32, true, [.int .i64 0, .int .i64 0, .string ⟨#[]⟩], .struct [(0, 1), (1, 1), (2, 1)]⟩)
        else (bif Nat.blt t 181 then
         some ⟨1, 8, false, [.nilFunc], .other⟩
         else (bif Nat.blt t 182 then
          some ⟨5, 48, true, [.int .i64 0, .int .i64 0, .int .i64 0, .string ⟨#[]⟩, .int .i64 0], .struct [(0, 1), (1, 3), (4, 1)]⟩
          else (bif Nat.beq t 182 then some ⟨5, 48, true, [.int .i64 0, .int .i64 0, .int .i64 0, .string ⟨#[]⟩, .int .i64 0], .struct [(0, 1), (1, 3), (4, 1)]⟩ else none))))))
     else (bif Nat.blt t 194 then
      (bif Nat.blt t 189 then
       (bif Nat.blt t 187 then
        (bif Nat.blt t 186 then
         (bif Nat.beq t 184 then some ⟨1, 8, false, [.nilFunc], .other⟩ else none)
         else some ⟨1, 8, false, [.nilFunc], .other⟩)
        else (bif Nat.blt t 188 then
         some ⟨1, 8, false, [.nilFunc], .other⟩
         else some ⟨1, 8, false, [.nilFunc], .other⟩))
       else (bif Nat.blt t 191 then
        (bif Nat.blt t 190 then
         some ⟨1, 8, false, [.nilFunc], .other⟩
         else some ⟨1, 8, false, [.nilFunc], .other⟩)
        else (bif Nat.blt t 192 then
         some ⟨1, 8, false, [.nilFunc], .other⟩
         else (bif Nat.blt t 193 then
          some ⟨1, 8, false, [.nilFunc], .other⟩
          else some ⟨24, 24, true, [.int .u8 0, .int .u8 0, .int .u8 0, .int .u8 0, .int .u8 0, .int .u8 0, .int .u8 0, .int .u8 0, .int .u8 0, .int .u8 0, .int .u8 0, .int .u8 0, .int .u8 0, .int .u8 0, .int .u8 0, .int .u8 0, .int .u8 0, .int .u8 0, .int .u8 0, .int .u8 0, .int .u8 0, .int .u8 0, .int .u8 0, .int .u8 0], .arr 24 5⟩))))
      else (bif Nat.blt t 200 then
       (bif Nat.blt t 197 then
        (bif Nat.blt t 195 then
         some ⟨1, 8, false, [.nilFunc], .other⟩
         else (bif Nat.beq t 195 then some ⟨1, 8, false, [.nilFunc], .other⟩ else none))
        else (bif Nat.blt t 198 then
         some ⟨1, 8, false, [.nilFunc], .other⟩
         else (bif Nat.blt t 199 then
          some ⟨1, 8, false, [.pointer none], .other⟩
          else some ⟨1, 8, false, [.pointer none], .other⟩)))
       else (bif Nat.blt t 202 then
        (bif Nat.blt t 201 then
         some ⟨2, 24, true, [.string ⟨#[]⟩, .int .i64 0], .struct [(0, 1), (1, 1)]⟩
         else some ⟨2, 24, true, [.string ⟨#[]⟩, .int .i64 0], .struct [(0, 1), (1, 1)]⟩)
        else (bif Nat.blt t 203 then
         some ⟨1, 8, false, [.int .i64 0], .int .i64⟩
         else (bif Nat.blt t 204 then
          some ⟨5, 64, true, [.string ⟨#[]⟩, .int .i64 0, .int .i64 0, .int .i64 0, .slice none 0 0], .struct [(0, 2), (2, 1), (3, 1), (4, 1)]⟩
          else (bif Nat.beq t 204 then some ⟨5, 64, true, [.string ⟨#[]⟩, .int .i64 0, .int .i64 0, .int .i64 0, .slice none 0 0], .struct [(0, 2), (2, 1), (3, 1), (4, 1)]⟩ else none)))))))
    else (bif Nat.blt t 227 then
     (bif Nat.blt t 216 then
      (bif Nat.blt t 210 then
       (bif Nat.blt t 208 then
        (bif Nat.blt t 207 then
         some ⟨1, 8, false, [.nilFunc], .other⟩
         else some ⟨1, 8, false, [.nilFunc], .other⟩)
        else (bif Nat.blt t 209 then
         some ⟨1, 8, false, [.nilFunc], .other⟩
         else some ⟨1, 8, false, [.nilFunc], .other⟩))
       else (bif Nat.blt t 213 then
        (bif Nat.blt t 212 then
         (bif Nat.beq t 210 then some ⟨1, 8, false, [.pointer none], .other⟩ else none)
         else some ⟨1, 8, false, [.nilFunc], .other⟩)
        else (bif Nat.blt t 214 then
         some ⟨12, 96, true, [.int .i64 0, .int .i64 0, .int .i64 0, .int .i64 0, .int .i64 0, .int .i64 0, .int .i64 0, .int .i64 0, .int .i64 0, .int .i64 0, .int .i64 0, .int .i64 0], .struct [(0, 1), (1, 1), (2, 1), (3, 9)]⟩
         else (bif Nat.blt t 215 then
          some ⟨12, 96, true, [.int .i64 0, .int .i64 0, .int .i64 0, .int .i64 0, .int .i64 0, .int .i64 0, .int .i64 0, .int .i64 0, .int .i64 0, .int .i64 0, .int .i64 0, .int .i64 0], .struct [(0, 1), (1, 1), (2, 1), (3, 9)]⟩
          else some ⟨1, 8, false, [.nilFunc], .other⟩))))
      else (bif Nat.blt t 221 then
       (bif Nat.blt t 218 then
        (bif Nat.blt t 217 then
         some ⟨1, 8, false, [.nilFunc], .other⟩
         else some ⟨1, 8, false, [.nilFunc], .other⟩)
        else (bif Nat.blt t 219 then
         some ⟨1, 8, false, [.nilFunc], .other⟩
         else (bif Nat.blt t 220 then
          some ⟨20, 160, true, [.int .u64 0, .int .u64 0, .int .u64 0, .int .u64 0, .int .u64 0, .int .u64 0, .int .u64 0, .int .u64 0, .int .u64 0, .int .u64 0, .int .u64 0, .int .u64 0, .int .u64 0, .int .u64 0, .int .u64 0, .int .u64 0, .int .u64 0, .int .u64 0, .int .u64 0, .int .u64 0], .arr 20 62⟩
          else some ⟨1, 4, false, [.int .u32 0], .int .u32⟩)))
       else (bif Nat.blt t 223 then
        (bif Nat.blt t 222 then
         some ⟨65, 65, true, [.int .u8 0, .int .u8 0, .int .u8 0, .int .u8 0, .int .u8 0, .int .u8 0, .int .u8 0, .int .u8 0, .int .u8 0, .int .u8 0, .int .u8 0, .int .u8 0, .int .u8 0, .int .u8 0, .int .u8 0, .int .u8 0, .int .u8 0, .int .u8 0, .int .u8 0, .int .u8 0, .int .u8 0, .int .u8 0, .int .u8 0, .int .u8 0, .int .u8 0, .int .u8 0, .int .u8 0, .int .u8 0, .int .u8 0, .int .u8 0, .int .u8 0, .int .u8 0, .int .u8 0, .int .u8 0, .int .u8 0, .int .u8 0, .int .u8 0, .int .u8 0, .int .u8 0, .int .u8 0, .int .u8 0, .int .u8 0, .int .u8 0, .int .u8 0, .int .u8 0, .int .u8 0, .int .u8 0, .int .u8 0, .int .u8 0, .int .u8 0, .int .u8 0, .int .u8 0, .int .u8 0, .int .u8 0, .int .u8 0, .int .u8 0, .int .u8 0, .int .u8 0, .int .u8 0, .int .u8 0, .int .u8 0, .int .u8 0, .int .u8 0, .int .u8 0, .int .u8 0], .arr 65 5⟩
         else some ⟨1, 8, false, [.nilFunc], .other⟩)
        else (bif Nat.blt t 224 then
         some ⟨1, 8, false, [.nilFunc], .other⟩
         else (bif Nat.blt t 226 then
          (bif Nat.beq t 224 then some ⟨1, 8, false, [.pointer none], .other⟩ else none)
          else some ⟨1, 8, false, [.nilFunc], .other⟩)))))
     else (bif Nat.blt t 239 then
      (bif Nat.blt t 234 then
       (bif Nat.blt t 229 then
        (bif Nat.blt t 228 then
         some ⟨1, 8, false, [.nilFunc], .other⟩
         else some ⟨1, 8, false, [.nilFunc], .other⟩)
        else (bif Nat.blt t 231 then
         (bif Nat.beq t 229 then some ⟨1, 8, false, [.nilFunc], .other⟩ else none)
         else (bif Nat.blt t 232 then
          some ⟨1, 8, false, [.nilFunc], .other⟩
          else (bif Nat.beq t 232 then some ⟨1, 8, false, [.nilFunc], .other⟩ else none))))
       else (bif Nat.blt t 236 then
        (bif Nat.blt t 235 then
         some ⟨1, 16, false, [.nilIface], .other⟩
         else some ⟨1, 16, false, [.nilIface], .other⟩)
        else (bif Nat.blt t 237 then
         some ⟨1, 8, false, [.nilFunc], .other⟩
         else (bif Nat.blt t 238 then
          some ⟨1, 8, false, [.nilFunc], .other⟩
          else some ⟨1, 8, false, [.pointer none], .other⟩))))
      else (bif Nat.blt t 244 then
       (bif Nat.blt t 241 then
        (bif Nat.blt t 240 then
         some ⟨1, 8, false, [.pointer none], .other⟩
         else some ⟨1, 24, false, [.slice none 0 0], .slice 3⟩)
        else (bif Nat.blt t 242 then
         some ⟨6, 56, true, [.int .i64 0, .int .i64 0, .int .i64 0, .slice none 0 0, .bool false, .bool false], .struct [(0, 1), (1, 1), (2, 1), (3, 1), (4, 1), (5, 1)]⟩
         else (bif Nat.blt t 243 then
          some ⟨6, 56, true, [.int .i64 0, .int .i64 0, .int .i64 0, .slice none 0 0, .bool false, .bool false], .struct [(0, 1), (1, 1), (2, 1), (3, 1), (4, 1), (5, 1)]⟩
          else some ⟨1, 8, false, [.nilFunc], .other⟩)))
       else (bif Nat.blt t 247 then
        (bif Nat.blt t 246 then
         (bif Nat.beq t 244 then some ⟨1, 8, false, [.nilFunc], .other⟩ else none)
         else some ⟨1, 8, false, [.nilFunc], .other⟩)
        else (bif Nat.blt t 248 then
         some ⟨1, 8, false, [.pointer none], .other⟩
         else (bif Nat.blt t 249 then
          some ⟨1, 24, false, [.slice none 0 0], .slice 361⟩
          else some ⟨1, 8, false, [.map none], .other⟩)))))))
   else (bif Nat.blt t 291 then
    (bif Nat.blt t 269 then
     (bif Nat.blt t 259 then
      (bif Nat.blt t 254 then
       (bif Nat.blt t 252 then
        (bif Nat.blt t 251 then
         some ⟨2, 16, true, [.map none, .int .i64 0], .struct [(0, 1), (1, 1)]⟩
         else some ⟨2, 16, true, [.map none, .int .i64 0], .struct [(0, 1), (1, 1)]⟩)
        else (bif Nat.blt t 253 then
         some ⟨1, 8, false, [.map none], .other⟩
         else some ⟨2, 16, true, [.map none, .int .i64 0], .struct [(0, 1), (1, 1)]⟩))
       else (bif Nat.blt t 256 then
        (bif Nat.blt t 255 then
         some ⟨2, 16, true, [.map none, .int .i64 0], .struct [(0, 1), (1, 1)]⟩
         else some ⟨1, 8, false, [.map none], .other⟩)
        else (bif Nat.blt t 257 then
         some ⟨2, 16, true, [.map none, .int .i64 0], .struct [(0, 1), (1, 1)]⟩
         else (bif Nat.blt t 258 then
          some ⟨2, 16, true, [.map none, .int .i64 0], .struct [(0, 1), (1, 1)]⟩
          else some ⟨1, 8, false, [.map none], .other⟩))))
      else (bif Nat.blt t 264 then
       (bif Nat.blt t 261 then
        (bif Nat.blt t 260 then
         some ⟨2, 16, true, [.map none, .int .i64 0], .struct [(0, 1), (1, 1)]⟩
         else some ⟨2, 16, true, [.map none, .int .i64 0], .struct [(0, 1), (1, 1)]⟩)
        else (bif Nat.blt t 262 then
         some ⟨8, 64, true, [.map none, .int .i64 0, .map none, .int .i64 0, .map none, .int .i64 0, .map none, .int .i64 0], .struct [(0, 2), (2, 2), (4, 2), (6, 2)]⟩
         else (bif Nat.blt t 263 then
          some ⟨8, 64, true, [.map none, .int .i64 0, .map none, .int .i64 0, .map none, .int .i64 0, .map none, .int .i64 0], .struct [(0, 2), (2, 2), (4, 2), (6, 2)]⟩
          else some ⟨2, 24, true, [.int .u64 0, .string ⟨#[]⟩], .struct [(0, 1), (1, 1)]⟩)))
       else (bif Nat.blt t 266 then
        (bif Nat.blt t 265 then
         some ⟨2, 24, true, [.int .u64 0, .string ⟨#[]⟩], .struct [(0, 1), (1, 1)]⟩
         else some ⟨16, 192, true, [.int .u64 0, .string ⟨#[]⟩, .int .u64 0, .string ⟨#[]⟩, .int .u64 0, .string ⟨#[]⟩, .int .u64 0, .string ⟨#[]⟩, .int .u64 0, .string ⟨#[]⟩, .int .u64 0, .string ⟨#[]⟩, .int .u64 0, .string ⟨#[]⟩, .int .u64 0, .string ⟨#[]⟩], .arr 8 264⟩)
        else (bif Nat.blt t 267 then
         some ⟨18, 208, true, [.int .u64 0, .string ⟨#[]⟩, .int .u64 0, .string ⟨#[]⟩, .int .u64 0, .string ⟨#[]⟩, .int .u64 0, .string ⟨#[]⟩, .int .u64 0, .string ⟨#[]⟩, .int .u64 0, .string ⟨#[]⟩, .int .u64 0, .string ⟨#[]⟩, .int .u64 0, .string ⟨#[]⟩, .int .i64 0, .int .i64 0], .struct [(0, 16), (16, 1), (17, 1)]⟩
         else (bif Nat.blt t 268 then
          some ⟨18, 208, true, [.int .u64 0, .string ⟨#[]⟩, .int .u64 0, .string ⟨#[]⟩, .int .u64 0, .string ⟨#[]⟩, .int .u64 0, .string ⟨#[]⟩, .int .u64 0, .string ⟨#[]⟩, .int .u64 0, .string ⟨#[]⟩, .int .u64 0, .string ⟨#[]⟩, .int .u64 0, .string ⟨#[]⟩, .int .i64 0, .int .i64 0], .struct [(0, 16), (16, 1), (17, 1)]⟩
          else some ⟨1, 24, false, [.slice none 0 0], .slice 62⟩)))))
     else (bif Nat.blt t 279 then
      (bif Nat.blt t 273 then
       (bif Nat.blt t 271 then
        (bif Nat.blt t 270 then
         some ⟨1, 24, true, [.slice none 0 0], .struct [(0, 1)]⟩
         else some ⟨1, 24, true, [.slice none 0 0], .struct [(0, 1)]⟩)
        else (bif Nat.blt t 272 then
         some ⟨29, 328, true, [.pointer none, .slice none 0 0, .map none, .int .i64 0, .map none, .int .i64 0, .map none, .int .i64 0, .map none, .int .i64 0, .int .u64 0, .string ⟨#[]⟩, .int .u64 0, .string ⟨#[]⟩, .int .u64 0, .string ⟨#[]⟩, .int .u64 0, .string ⟨#[]⟩, .int .u64 0, .string ⟨#[]⟩, .int .u64 0, .string ⟨#[]⟩, .int .u64 0, .string ⟨#[]⟩, .int .u64 0, .string ⟨#[]⟩, .int .i64 0, .int .i64 0, .slice none 0 0], .struct [(0, 1), (1, 1), (2, 8), (10, 18), (28, 1)]⟩
         else some ⟨29, 328, true, [.pointer none, .slice none 0 0, .map none, .int .i64 0, .map none, .int .i64 0, .map none, .int .i64 0, .map none, .int .i64 0, .int .u64 0, .string ⟨#[]⟩, .int .u64 0, .string ⟨#[]⟩, .int .u64 0, .string ⟨#[]⟩, .int .u64 0, .string ⟨#[]⟩, .int .u64 0, .string ⟨#[]⟩, .int .u64 0, .string ⟨#[]⟩, .int .u64 0, .string ⟨#[]⟩, .int .u64 0, .string ⟨#[]⟩, .int .i64 0, .int .i64 0, .slice none 0 0], .struct [(0, 1), (1, 1), (2, 8), (10, 18), (28, 1)]⟩))
       else (bif Nat.blt t 275 then
        (bif Nat.blt t 274 then
         some ⟨1, 8, false, [.nilFunc], .other⟩
         else some ⟨1, 8, false, [.nilFunc], .other⟩)
        else (bif Nat.blt t 277 then
         (bif Nat.beq t 275 then some ⟨1, 8, false, [.nilFunc], .other⟩ else none)
         else (bif Nat.blt t 278 then
          some ⟨1, 8, false, [.nilFunc], .other⟩
          else some ⟨1, 8, false, [.nilFunc], .other⟩))))
      else (bif Nat.blt t 284 then
       (bif Nat.blt t 281 then
        (bif Nat.blt t 280 then
         some ⟨1, 8, false, [.nilFunc], .other⟩
         else some ⟨3, 32, true, [.int .u64 0, .int .i64 0, .string ⟨#[]⟩], .struct [(0, 1), (1, 1), (2, 1)]⟩)
        else (bif Nat.blt t 282 then
         some ⟨3, 32, true, [.int .u64 0, .int .i64 0, .string ⟨#[]⟩], .struct [(0, 1), (1, 1), (2, 1)]⟩
         else (bif Nat.blt t 283 then
          some ⟨1, 8, false, [.nilFunc], .other⟩
          else some ⟨1, 8, false, [.nilFunc], .other⟩)))
       else (bif Nat.blt t 286 then
        (bif Nat.blt t 285 then
         some ⟨1, 8, false, [.pointer none], .other⟩
         else some ⟨10, 80, true, [.int .i64 0, .int .i64 0, .int .i64 0, .int .i64 0, .int .i64 0, .int .i64 0, .int .i64 0, .int .i64 0, .int .i64 0, .bool false], .struct [(0, 9), (9, 1)]⟩)
        else (bif Nat.blt t 288 then
         (bif Nat.beq t 286 then some ⟨10, 80, true, [.int .i64 0, .int .i64 0, .int .i64 0, .int .i64 0, .int .i64 0, .int .i64 0, .int .i64 0, .int .i64 0, .int .i64 0, .bool false], .struct [(0, 9), (9, 1)]⟩ else none)
         else (bif Nat.blt t 289 then
          some ⟨1, 8, false, [.nilFunc], .other⟩
          else (bif Nat.beq t 289 then some ⟨1, 8, false, [.nilFunc], .other⟩ else none)))))))
    else (bif Nat.blt t 311 then
     (bif Nat.blt t 301 then
      (bif Nat.blt t 296 then
       (bif Nat.blt t 293 then
        (bif Nat.blt t 292 then
         some ⟨1, 8, false, [.nilFunc], .other⟩
         else some ⟨3, 24, true, [.int .i64 0, .int .i64 0, .int .u64 0], .struct [(0, 1), (1, 1), (2, 1)]⟩)
        else (bif Nat.blt t 295 then
         (bif Nat.beq t 293 then some ⟨3, 24, true, [.int .i64 0, .int .i64 0, .int .u64 0], .struct [(0, 1), (1, 1), (2, 1)]⟩ else none)
         else some ⟨1, 8, false, [.nilFunc], .other⟩))
       else (bif Nat.blt t 298 then
        (bif Nat.blt t 297 then
         some ⟨1, 8, false, [.nilFunc], .other⟩
         else some ⟨1, 8, false, [.nilFunc], .other⟩)
        else (bif Nat.blt t 299 then
         some ⟨1, 8, false, [.nilFunc], .other⟩
         else (bif Nat.blt t 300 then
          some ⟨1, 8, false, [.nilFunc], .other⟩
          else some ⟨1, 8, false, [.nilFunc], .other⟩))))
      else (bif Nat.blt t 306 then
       (bif Nat.blt t 303 then
        (bif Nat.blt t 302 then
         some ⟨1, 8, true, [.int .i64 0], .struct [(0, 1)]⟩
         else some ⟨1, 8, true, [.int .i64 0], .struct [(0, 1)]⟩)
        else (bif Nat.blt t 304 then
         some ⟨1, 8, true, [.pointer none], .struct [(0, 1)]⟩
         else (bif Nat.blt t 305 then
          some ⟨1, 8, true, [.pointer none], .struct [(0, 1)]⟩
          else some ⟨1, 8, false, [.nilFunc], .other⟩)))
       else (bif Nat.blt t 308 then
        (bif Nat.blt t 307 then
         some ⟨1, 8, false, [.pointer none], .other⟩
         else some ⟨1, 8, false, [.nilFunc], .other⟩)
        else (bif Nat.blt t 309 then
         some ⟨1, 8, false, [.nilFunc], .other⟩
         else (bif Nat.blt t 310 then
          some ⟨1, 8, false, [.pointer none], .other⟩
          else some ⟨1, 24, false, [.slice none 0 0], .slice 264⟩)))))
     else (bif Nat.blt t 321 then
      (bif Nat.blt t 316 then
       (bif Nat.blt t 313 then
        (bif Nat.blt t 312 then
         some ⟨1, 8, false, [.nilFunc], .other⟩
         else some ⟨1, 8, false, [.pointer none], .other⟩)
        else (bif Nat.blt t 314 then
         some ⟨1, 8, false, [.nilFunc], .other⟩
         else (bif Nat.blt t 315 then
          some ⟨1, 8, false, [.nilFunc], .other⟩
          else some ⟨1, 8, false, [.nilFunc], .other⟩)))
       else (bif Nat.blt t 318 then
        (bif Nat.blt t 317 then
         some ⟨1, 8, false, [.nilFunc], .other⟩
         else some ⟨1, 8, false, [.nilFunc], .other⟩)
        else (bif Nat.blt t 319 then
         some ⟨1, 8, false, [.nilFunc], .other⟩
         else (bif Nat.blt t 320 then
          some ⟨32, 32, true, [.int .u8 0, .int .u8 0, .int .u8 0, .int .u8 0, .int .u8 0, .int .u8 0, .int .u8 0, .int .u8 0, .int .u8 0, .int .u8 0, .int .u8 0, .int .u8 0, .int .u8 0, .int .u8 0, .int .u8 0, .int .u8 0, .int .u8 0, .int .u8 0, .int .u8 0, .int .u8 0, .int .u8 0, .int .u8 0, .int .u8 0, .int .u8 0, .int .u8 0, .int .u8 0, .int .u8 0, .int .u8 0, .int .u8 0, .int .u8 0, .int .u8 0, .int .u8 0], .arr 32 5⟩
          else some ⟨64, 64, true, [.int .u8 0, .int .u8 0, .int .u8 0, .int .u8 0, .int .u8 0, .int .u8 0, .int .u8 0, .int .u8 0, .int .u8 0, .int .u8 0, .int .u8 0, .int .u8 0, .int .u8 0, .int .u8 0, .int .u8 0, .int .u8 0, .int .u8 0, .int .u8 0, .int .u8 0, .int .u8 0, .int .u8 0, .int .u8 0, .int .u8 0, .int .u8 0, .int .u8 0, .int .u8 0, .int .u8 0, .int .u8 0, .int .u8 0, .int .u8 0, .int .u8 0, .int .u8 0, .int .u8 0, .int .u8 0, .int .u8 0, .int .u8 0, .int .u8 0, .int .u8 0, .int .u8 0, .int .u8 0, .int .u8 0, .int .u8 0, .int .u8 0, .int .u8 0, .int .u8 0, .int .u8 0, .int .u8 0, .int .u8 0, .int .u8 0, .int .u8 0, .int .u8 0, .int .u8 0, .int .u8 0, .int .u8 0, .int .u8 0, .int .u8 0, .int .u8 0, .int .u8 0, .int .u8 0, .int .u8 0, .int .u8 0, .int .u8 0, .int .u8 0, .int .u8 0], .arr 64 5⟩))))
      else (bif Nat.blt t 326 then
       (bif Nat.blt t 323 then
        (bif Nat.blt t 322 then
         some ⟨1, 8, false, [.nilFunc], .other⟩
         else some ⟨1, 8, false, [.nilFunc], .other⟩)
        else (bif Nat.blt t 324 then
         some ⟨1, 8, false, [.nilFunc], .other⟩
         else (bif Nat.blt t 325 then
          some ⟨3, 32, true, [.string ⟨#[]⟩, .int .i64 0, .int .i64 0], .struct [(0, 1), (1, 1), (2, 1)]⟩
          else some ⟨3, 32, true, [.string ⟨#[]⟩, .int .i64 0, .int .i64 0], .struct [(0, 1), (1, 1), (2, 1)]⟩)))
       else (bif Nat.blt t 328 then
        (bif Nat.blt t 327 then
         some ⟨1, 8, false, [.nilFunc], .other⟩
         else some ⟨1, 8, false, [.nilFunc], .other⟩)
        else (bif Nat.blt t 330 then
         (bif Nat.beq t 328 then some ⟨1, 8, false, [.nilFunc], .other⟩ else none)
         else (bif Nat.blt t 331 then
          some ⟨1, 8, false, [.nilFunc], .other⟩
          else some ⟨1, 8, false, [.nilFunc], .other⟩)))))))))
 else (bif Nat.blt t 507 then
  (bif Nat.blt t 423 then
   (bif Nat.blt t 379 then
    (bif Nat.blt t 356 then
     (bif Nat.blt t 343 then
      (bif Nat.blt t 337 then
       (bif Nat.blt t 335 then
        (bif Nat.blt t 333 then
         some ⟨5, 56, true, [.int .u64 0, .int .i64 0, .string ⟨#[]⟩, .string ⟨#[]⟩, .int .i64 0], .struct [(0, 1), (1, 1), (2, 1), (3, 1), (4, 1)]⟩
         else (bif Nat.beq t 333 then some ⟨5, 56, true, [.int .u64 0, .int .i64 0, .string ⟨#[]⟩, .string ⟨#[]⟩, .int .i64 0], .struct [(0, 1), (1, 1), (2, 1), (3, 1), (4, 1)]⟩ else none))
        else (bif Nat.blt t 336 then
         some ⟨1, 8, false, [.nilFunc], .other⟩
         else some ⟨1, 8, false, [.nilFunc], .other⟩))
       else (bif Nat.blt t 340 then
        (bif Nat.blt t 338 then
         some ⟨4, 40, true, [.int .u64 0, .int .i64 0, .int .i64 0, .string ⟨#[]⟩], .struct [(0, 1), (1, 1), (2, 1), (3, 1)]⟩
         else (bif Nat.beq t 338 then some ⟨4, 40, true, [.int .u64 0, .int .i64 0, .int .i64 0, .string ⟨#[]⟩], .struct [(0, 1), (1, 1), (2, 1), (3, 1)]⟩ else none))
        else (bif Nat.blt t 341 then
         some ⟨1, 8, false, [.nilFunc], .other⟩
         else (bif Nat.blt t 342 then
          some ⟨1, 8, false, [.nilFunc], .other⟩
          else some ⟨1, 8, false, [.nilFunc], .other⟩))))
      else (bif Nat.blt t 349 then
       (bif Nat.blt t 345 then
        (bif Nat.blt t 344 then
         some ⟨1, 8, false, [.nilFunc], .other⟩
         else some ⟨1, 8, false, [.nilFunc], .other⟩)
        else (bif Nat.blt t 346 then
         some ⟨4, 4, true, [.int .u8 0, .int .u8 0, .int .u8 0, .int .u8 0], .arr 4 5⟩
         else (bif Nat.blt t 348 then
          (bif Nat.beq t 346 then some ⟨1, 8, false, [.nilFunc], .other⟩ else none)
          else some ⟨1, 8, false, [.nilFunc], .other⟩)))
       else (bif Nat.blt t 351 then
        (bif Nat.blt t 350 then
         some ⟨1, 8, false, [.nilFunc], .other⟩
         else some ⟨2, 16, true, [.int .i64 0, .int .i64 0], .struct [(0, 1), (1, 1)]⟩)
        else (bif Nat.blt t 353 then
         (bif Nat.beq t 351 then some ⟨2, 16, true, [.int .i64 0, .int .i64 0], .struct [(0, 1), (1, 1)]⟩ else none)
         else (bif Nat.blt t 355 then
          (bif Nat.beq t 353 then some ⟨1, 8, false, [.nilFunc], .other⟩ else none)
          else some ⟨1, 8, false, [.nilFunc], .other⟩)))))
     else (bif Nat.blt t 367 then
      (bif Nat.blt t 360 then
       (bif Nat.blt t 358 then
        (bif Nat.blt t 357 then
         some ⟨4, 48, true, [.int .i64 0, .string ⟨#[]⟩, .string ⟨#[]⟩, .int .i64 0], .struct [(0, 1), (1, 1), (2, 1), (3, 1)]⟩
         else some ⟨4, 48, true, [.int .i64 0, .string ⟨#[]⟩, .string ⟨#[]⟩, .int .i64 0], .struct [(0, 1), (1, 1), (2, 1), (3, 1)]⟩)
        else (bif Nat.blt t 359 then
         some ⟨5, 64, true, [.int .i64 0, .string ⟨#[]⟩, .string ⟨#[]⟩, .string ⟨#[]⟩, .bool false], .struct [(0, 1), (1, 1), (2, 1), (3, 1), (4, 1)]⟩
         else some ⟨5, 64, true, [.int .i64 0, .string ⟨#[]⟩, .string ⟨#[]⟩, .string ⟨#[]⟩, .bool false], .struct [(0, 1), (1, 1), (2, 1), (3, 1), (4, 1)]⟩))
       else (bif Nat.blt t 363 then
        (bif Nat.blt t 361 then
         some ⟨9, 112, true, [.int .i64 0, .string ⟨#[]⟩, .string ⟨#[]⟩, .int .i64 0, .int .i64 0, .string ⟨#[]⟩, .string ⟨#[]⟩, .string ⟨#[]⟩, .bool false], .struct [(0, 4), (4, 5)]⟩
         else (bif Nat.beq t 361 then some ⟨9, 112, true, [.int .i64 0, .string ⟨#[]⟩, .string ⟨#[]⟩, .int .i64 0, .int .i64 0, .string ⟨#[]⟩, .string ⟨#[]⟩, .string ⟨#[]⟩, .bool false], .struct [(0, 4), (4, 5)]⟩ else none))
        else (bif Nat.blt t 364 then
         some ⟨1, 8, false, [.nilFunc], .other⟩
         else (bif Nat.blt t 366 then
          (bif Nat.beq t 364 then some ⟨1, 8, false, [.nilFunc], .other⟩ else none)
          else some ⟨1, 8, false, [.nilFunc], .other⟩))))
      else (bif Nat.blt t 373 then
       (bif Nat.blt t 369 then
        (bif Nat.blt t 368 then
         some ⟨1, 8, false, [.nilFunc], .other⟩
         else some ⟨1, 24, false, [.slice none 0 0], .slice 370⟩)
        else (bif Nat.blt t 370 then
         some ⟨5, 80, true, [.int .i64 0, .int .i64 0, .string ⟨#[]⟩, .slice none 0 0, .slice none 0 0], .struct [(0, 1), (1, 1), (2, 1), (3, 1), (4, 1)]⟩
         else (bif Nat.blt t 372 then
          (bif Nat.beq t 370 then some ⟨5, 80, true, [.int .i64 0, .int .i64 0, .string ⟨#[]⟩, .slice none 0 0, .slice none 0 0], .struct [(0, 1), (1, 1), (2, 1), (3, 1), (4, 1)]⟩ else none)
          else some ⟨1, 8, false, [.nilFunc], .other⟩)))
       else (bif Nat.blt t 375 then
        (bif Nat.blt t 374 then
         some ⟨4, 48, true, [.string ⟨#[]⟩, .string ⟨#[]⟩, .int .i64 0, .int .u64 0], .struct [(0, 1), (1, 1), (2, 1), (3, 1)]⟩
         else some ⟨4, 48, true, [.string ⟨#[]⟩, .string ⟨#[]⟩, .int .i64 0, .int .u64 0], .struct [(0, 1), (1, 1), (2, 1), (3, 1)]⟩)
        else (bif Nat.blt t 376 then
         some ⟨1, 8, false, [.nilFunc], .other⟩
         else (bif Nat.blt t 377 then
          some ⟨3, 32, true, [.string ⟨#[]⟩, .bool false, .int .i64 0], .struct [(0, 1), (1, 1), (2, 1)]⟩
          else (bif Nat.beq t 377 then some ⟨3, 32, true, [.string ⟨#[]⟩, .bool false, .int .i64 0], .struct [(0, 1), (1, 1), (2, 1)]⟩ else none)))))))
    else (bif Nat.blt t 401 then
     (bif Nat.blt t 391 then
      (bif Nat.blt t 384 then
       (bif Nat.blt t 381 then
        (bif Nat.blt t 380 then
         some ⟨1, 8, false, [.nilFunc], .other⟩
         else some ⟨1, 8, false, [.nilFunc], .other⟩)
        else (bif Nat.blt t 383 then
         (bif Nat.beq t 381 then some ⟨1, 8, false, [.nilFunc], .other⟩ else none)
         else some ⟨1, 8, false, [.nilFunc], .other⟩))
       else (bif Nat.blt t 387 then
        (bif Nat.blt t 386 then
         (bif Nat.beq t 384 then some ⟨1, 8, false, [.nilFunc], .other⟩ else none)
         else some ⟨1, 8, false, [.nilFunc], .other⟩)
        else (bif Nat.blt t 388 then
         some ⟨1, 8, false, [.nilFunc], .other⟩
         else (bif Nat.blt t 389 then
          some ⟨1, 8, false, [.nilFunc], .other⟩
          else (bif Nat.beq t 389 then some ⟨1, 24, false, [.slice none 0 0], .slice 397⟩ else none)))))
      else (bif Nat.blt t 396 then
       (bif Nat.blt t 393 then
        (bif Nat.blt t 392 then
         some ⟨1, 8, false, [.nilFunc], .other⟩
         else some ⟨1, 8, false, [.nilFunc], .other⟩)
        else (bif Nat.blt t 394 then
         some ⟨1, 8, false, [.nilFunc], .other⟩
         else (bif Nat.blt t 395 then
          some ⟨1, 24, false, [.slice none 0 0], .slice 466⟩
          else some ⟨1, 24, false, [.slice none 0 0], .slice 359⟩)))
       else (bif Nat.blt t 398 then
        (bif Nat.blt t 397 then
         some ⟨5, 80, true, [.int .i64 0, .string ⟨#[]⟩, .slice none 0 0, .slice none 0 0, .int .i64 0], .struct [(0, 1), (1, 1), (2, 1), (3, 1), (4, 1)]⟩
         else some ⟨5, 80, true, [.int .i64 0, .string ⟨#[]⟩, .slice none 0 0, .slice none 0 0, .int .i64 0], .struct [(0, 1), (1, 1), (2, 1), (3, 1), (4, 1)]⟩)
        else (bif Nat.blt t 399 then
         some ⟨1, 8, false, [.pointer none], .other⟩
         else (bif Nat.blt t 400 then
          some ⟨7, 96, true, [.pointer none, .pointer none, .int .i64 0, .string ⟨#[]⟩, .slice none 0 0, .slice none 0 0, .int .i64 0], .struct [(0, 1), (1, 1), (2, 5)]⟩
          else some ⟨7, 96, true, [.pointer none, .pointer none, .int .i64 0, .string ⟨#[]⟩, .slice none 0 0, .slice none 0 0, .int .i64 0], .struct [(0, 1), (1, 1), (2, 5)]⟩)))))
     else (bif Nat.blt t 410 then
      (bif Nat.blt t 405 then
       (bif Nat.blt t 403 then
        (bif Nat.blt t 402 then
         some ⟨1, 8, false, [.nilFunc], .other⟩
         else some ⟨0, 0, true, [], .struct []⟩)
        else (bif Nat.blt t 404 then
         some ⟨1, 4, true, [.int .u32 0], .struct [(0, 0), (0, 1)]⟩
         else some ⟨1, 4, true, [.int .u32 0], .struct [(0, 0), (0, 1)]⟩))
       else (bif Nat.blt t 407 then
        (bif Nat.blt t 406 then
         some ⟨2, 8, true, [.int .i32 0, .int .u32 0], .struct [(0, 1), (1, 1)]⟩
         else some ⟨2, 8, true, [.int .i32 0, .int .u32 0], .struct [(0, 1), (1, 1)]⟩)
        else (bif Nat.blt t 408 then
         some ⟨2, 8, true, [.int .i32 0, .int .u32 0], .struct [(0, 0), (0, 2)]⟩
         else (bif Nat.blt t 409 then
          some ⟨2, 8, true, [.int .i32 0, .int .u32 0], .struct [(0, 0), (0, 2)]⟩
          else some ⟨3, 12, true, [.int .u32 0, .int .i32 0, .int .u32 0], .struct [(0, 0), (0, 1), (1, 2)]⟩))))
      else (bif Nat.blt t 416 then
       (bif Nat.blt t 412 then
        (bif Nat.blt t 411 then
         some ⟨3, 12, true, [.int .u32 0, .int .i32 0, .int .u32 0], .struct [(0, 0), (0, 1), (1, 2)]⟩
         else some ⟨1, 8, false, [.pointer none], .other⟩)
        else (bif Nat.blt t 413 then
         some ⟨1, 8, false, [.map none], .other⟩
         else (bif Nat.blt t 414 then
          some ⟨6, 56, true, [.slice none 0 0, .int .u32 0, .int .i32 0, .int .u32 0, .pointer none, .map none], .struct [(0, 1), (1, 3), (4, 1), (5, 1)]⟩
          else (bif Nat.beq t 414 then some ⟨6, 56, true, [.slice none 0 0, .int .u32 0, .int .i32 0, .int .u32 0, .pointer none, .map none], .struct [(0, 1), (1, 3), (4, 1), (5, 1)]⟩ else none))))
       else (bif Nat.blt t 419 then
        (bif Nat.blt t 417 then
         some ⟨1, 8, false, [.nilFunc], .other⟩
         else (bif Nat.beq t 417 then some ⟨1, 24, false, [.slice none 0 0], .slice 445⟩ else none))
        else (bif Nat.blt t 420 then
         some ⟨1, 8, false, [.nilFunc], .other⟩
         else (bif Nat.blt t 421 then
          some ⟨1, 8, false, [.nilFunc], .other⟩
          else (bif Nat.beq t 421 then some ⟨1, 8, false, [.nilFunc], .other⟩ else none))))))))
   else (bif Nat.blt t 466 then
    (bif Nat.blt t 444 then
     (bif Nat.blt t 433 then
      (bif Nat.blt t 427 then
       (bif Nat.blt t 425 then
        (bif Nat.blt t 424 then
         some ⟨1, 8, false, [.nilFunc], .other⟩
         else some ⟨1, 8, false, [.nilFunc], .other⟩)
        else (bif Nat.blt t 426 then
         some ⟨1, 8, false, [.nilFunc], .other⟩
         else some ⟨1, 8, false, [.nilFunc], .other⟩))
       else (bif Nat.blt t 429 then
        (bif Nat.blt t 428 then
         some ⟨1, 8, false, [.nilFunc], .other⟩
         else some ⟨1, 8, true, [.int .i64 0], .struct [(0, 1)]⟩)
        else (bif Nat.blt t 431 then
         (bif Nat.beq t 429 then some ⟨1, 8, true, [.int .i64 0], .struct [(0, 1)]⟩ else none)
         else (bif Nat.blt t 432 then
          some ⟨1, 8, false, [.pointer none], .other⟩
          else some ⟨3, 24, true, [.pointer none, .int .i64 0, .int .i64 0], .struct [(0, 1), (1, 1), (2, 1)]⟩))))
      else (bif Nat.blt t 438 then
       (bif Nat.blt t 435 then
        (bif Nat.blt t 434 then
         some ⟨3, 24, true, [.pointer none, .int .i64 0, .int .i64 0], .struct [(0, 1), (1, 1), (2, 1)]⟩
         else some ⟨1, 8, false, [.nilFunc], .other⟩)
        else (bif Nat.blt t 436 then
         some ⟨1, 8, false, [.nilFunc], .other⟩
         else (bif Nat.blt t 437 then
          some ⟨1, 8, false, [.pointer none], .other⟩
          else some ⟨1, 8, false, [.nilFunc], .other⟩)))
       else (bif Nat.blt t 441 then
        (bif Nat.blt t 439 then
         some ⟨2, 16, true, [.nilFunc, .nilFunc], .struct [(0, 1), (1, 1)]⟩
         else (bif Nat.beq t 439 then some ⟨2, 16, true, [.nilFunc, .nilFunc], .struct [(0, 1), (1, 1)]⟩ else none))
        else (bif Nat.blt t 442 then
         some ⟨1, 8, false, [.nilFunc], .other⟩
         else (bif Nat.blt t 443 then
          some ⟨1, 8, false, [.nilFunc], .other⟩
          else some ⟨1, 8, false, [.nilFunc], .other⟩)))))
     else (bif Nat.blt t 456 then
      (bif Nat.blt t 450 then
       (bif Nat.blt t 447 then
        (bif Nat.blt t 445 then
         some ⟨3, 48, true, [.int .i64 0, .string ⟨#[]⟩, .slice none 0 0], .struct [(0, 1), (1, 1), (2, 1)]⟩
         else (bif Nat.beq t 445 then some ⟨3, 48, true, [.int .i64 0, .string ⟨#[]⟩, .slice none 0 0], .struct [(0, 1), (1, 1), (2, 1)]⟩ else none))
        else (bif Nat.blt t 449 then
         (bif Nat.beq t 447 then some ⟨1, 8, false, [.nilFunc], .other⟩ else none)
         else some ⟨1, 8, false, [.nilFunc], .other⟩))
       else (bif Nat.blt t 453 then
        (bif Nat.blt t 451 then
         some ⟨1, 8, false, [.nilFunc], .other⟩
         else (bif Nat.beq t 451 then some ⟨1, 24, false, [.slice none 0 0], .slice 459⟩ else none))
        else (bif Nat.blt t 454 then
         some ⟨1, 8, false, [.nilFunc], .other⟩
         else (bif Nat.blt t 455 then
          some ⟨1, 8, false, [.pointer none], .other⟩
          else some ⟨4, 48, true, [.slice none 0 0, .int .i64 0, .int .i64 0, .int .i64 0], .struct [(0, 1), (1, 1), (2, 2)]⟩))))
      else (bif Nat.blt t 461 then
       (bif Nat.blt t 458 then
        (bif Nat.blt t 457 then
         some ⟨4, 48, true, [.slice none 0 0, .int .i64 0, .int .i64 0, .int .i64 0], .struct [(0, 1), (1, 1), (2, 2)]⟩
         else some ⟨1, 8, false, [.nilFunc], .other⟩)
        else (bif Nat.blt t 459 then
         some ⟨4, 40, true, [.int .i64 0, .string ⟨#[]⟩, .int .i64 0, .int .i64 0], .struct [(0, 1), (1, 1), (2, 1), (3, 1)]⟩
         else (bif Nat.blt t 460 then
          some ⟨4, 40, true, [.int .i64 0, .string ⟨#[]⟩, .int .i64 0, .int .i64 0], .struct [(0, 1), (1, 1), (2, 1), (3, 1)]⟩
          else some ⟨1, 8, false, [.nilFunc], .other⟩)))
       else (bif Nat.blt t 463 then
        (bif Nat.blt t 462 then
         some ⟨1, 8, false, [.nilFunc], .other⟩
         else some ⟨1, 8, false, [.nilFunc], .other⟩)
        else (bif Nat.blt t 464 then
         some ⟨1, 8, false, [.nilFunc], .other⟩
         else (bif Nat.blt t 465 then
          some ⟨1, 8, false, [.nilFunc], .other⟩
          else some ⟨5, 72, true, [.int .i64 0, .string ⟨#[]⟩, .int .i64 0, .string ⟨#[]⟩, .slice none 0 0], .struct [(0, 1), (1, 1), (2, 3)]⟩))))))
    else (bif Nat.blt t 487 then
     (bif Nat.blt t 476 then
      (bif Nat.blt t 470 then
       (bif Nat.blt t 468 then
        (bif Nat.blt t 467 then
         some ⟨5, 72, true, [.int .i64 0, .string ⟨#[]⟩, .int .i64 0, .string ⟨#[]⟩, .slice none 0 0], .struct [(0, 1), (1, 1), (2, 3)]⟩
         else some ⟨1, 8, false, [.nilFunc], .other⟩)
        else (bif Nat.blt t 469 then
         some ⟨1, 8, false, [.nilFunc], .other⟩
         else some ⟨1, 8, false, [.nilFunc], .other⟩))
       else (bif Nat.blt t 472 then
        (bif Nat.blt t 471 then
         some ⟨1, 8, false, [.nilFunc], .other⟩
         else some ⟨1, 8, false, [.nilFunc], .other⟩)
        else (bif Nat.blt t 473 then
         some ⟨1, 8, false, [.nilFunc], .other⟩
         else (bif Nat.blt t 474 then
          some ⟨1, 8, false, [.nilFunc], .other⟩
          else (bif Nat.beq t 474 then some ⟨1, 8, false, [.nilFunc], .other⟩ else none)))))
      else (bif Nat.blt t 482 then
       (bif Nat.blt t 478 then
        (bif Nat.blt t 477 then
         some ⟨1, 8, false, [.nilFunc], .other⟩
         else some ⟨1, 8, false, [.nilFunc], .other⟩)
        else (bif Nat.blt t 480 then
         (bif Nat.beq t 478 then some ⟨1, 8, false, [.nilFunc], .other⟩ else none)
         else (bif Nat.blt t 481 then
          some ⟨1, 8, false, [.nilFunc], .other⟩
          else some ⟨1, 8, false, [.nilFunc], .other⟩)))
       else (bif Nat.blt t 484 then
        (bif Nat.blt t 483 then
         some ⟨1, 8, false, [.nilFunc], .other⟩
         else some ⟨1, 8, false, [.nilFunc], .other⟩)
        else (bif Nat.blt t 485 then
         some ⟨1, 8, false, [.nilFunc], .other⟩
         else (bif Nat.blt t 486 then
          some ⟨1, 8, false, [.pointer none], .other⟩
          else some ⟨1, 8, false, [.nilFunc], .other⟩)))))
     else (bif Nat.blt t 497 then
      (bif Nat.blt t 492 then
       (bif Nat.blt t 489 then
        (bif Nat.blt t 488 then
         some ⟨2, 24, true, [.string ⟨#[]⟩, .int .i64 0], .struct [(0, 1), (1, 1)]⟩
         else some ⟨2, 24, true, [.string ⟨#[]⟩, .int .i64 0], .struct [(0, 1), (1, 1)]⟩)
        else (bif Nat.blt t 490 then
         some ⟨1, 8, false, [.nilFunc], .other⟩
         else (bif Nat.blt t 491 then
          some ⟨1, 8, false, [.nilFunc], .other⟩
          else some ⟨1, 8, false, [.pointer none], .other⟩)))
       else (bif Nat.blt t 494 then
        (bif Nat.blt t 493 then
         some ⟨1, 8, true, [.pointer none], .struct [(0, 1)]⟩
         else some ⟨1, 8, true, [.pointer none], .struct [(0, 1)]⟩)
        else (bif Nat.blt t 495 then
         some ⟨1, 8, false, [.nilFunc], .other⟩
         else (bif Nat.blt t 496 then
          some ⟨1, 8, false, [.pointer none], .other⟩
          else some ⟨3, 48, true, [.string ⟨#[]⟩, .int .i64 0, .slice none 0 0], .struct [(0, 1), (1, 1), (2, 1)]⟩))))
      else (bif Nat.blt t 502 then
       (bif Nat.blt t 499 then
        (bif Nat.blt t 498 then
         some ⟨3, 48, true, [.string ⟨#[]⟩, .int .i64 0, .slice none 0 0], .struct [(0, 1), (1, 1), (2, 1)]⟩
         else some ⟨1, 8, false, [.nilFunc], .other⟩)
        else (bif Nat.blt t 500 then
         some ⟨1, 8, false, [.nilFunc], .other⟩
         else (bif Nat.blt t 501 then
          some ⟨1, 8, false, [.nilFunc], .other⟩
          else some ⟨1, 8, false, [.nilFunc], .other⟩)))
       else (bif Nat.blt t 504 then
        (bif Nat.blt t 503 then
         some ⟨1, 8, false, [.nilFunc], .other⟩
         else some ⟨1, 8, false, [.pointer none], .other⟩)
        else (bif Nat.blt t 505 then
         some ⟨2, 32, true, [.slice none 0 0, .pointer none], .struct [(0, 1), (1, 1)]⟩
         else (bif Nat.blt t 506 then
          some ⟨2, 32, true, [.slice none 0 0, .pointer none], .struct [(0, 1), (1, 1)]⟩
          else some ⟨1, 24, false, [.slice none 0 0], .slice 4⟩))))))))
  else (bif Nat.blt t 590 then
   (bif Nat.blt t 549 then
    (bif Nat.blt t 530 then
     (bif Nat.blt t 517 then
      (bif Nat.blt t 512 then
       (bif Nat.blt t 509 then
        (bif Nat.blt t 508 then
         some ⟨1, 8, false, [.nilFunc], .other⟩
         else some ⟨1, 8, false, [.nilFunc], .other⟩)
        else (bif Nat.blt t 511 then
         (bif Nat.beq t 509 then some ⟨1, 8, false, [.nilFunc], .other⟩ else none)
         else some ⟨1, 8, false, [.nilFunc], .other⟩))
       else (bif Nat.blt t 514 then
        (bif Nat.blt t 513 then
         some ⟨1, 8, false, [.nilFunc], .other⟩
         else some ⟨1, 8, false, [.map none], .other⟩)
        else (bif Nat.blt t 515 then
         some ⟨2, 32, true, [.map none, .slice none 0 0], .struct [(0, 1), (1, 1)]⟩
         else (bif Nat.blt t 516 then
          some ⟨2, 32, true, [.map none, .slice none 0 0], .struct [(0, 1), (1, 1)]⟩
          else some ⟨1, 8, false, [.nilFunc], .other⟩))))
      else (bif Nat.blt t 522 then
       (bif Nat.blt t 519 then
        (bif Nat.blt t 518 then
         some ⟨1, 8, false, [.nilFunc], .other⟩
         else some ⟨1, 8, false, [.nilFunc], .other⟩)
        else (bif Nat.blt t 520 then
         some ⟨1, 8, false, [.nilFunc], .other⟩
         else (bif Nat.blt t 521 then
          some ⟨1, 8, false, [.nilFunc], .other⟩
          else some ⟨1, 8, false, [.int .i64 0], .int .i64⟩)))
       else (bif Nat.blt t 525 then
        (bif Nat.blt t 524 then
         (bif Nat.beq t 522 then some ⟨1, 8, false, [.nilFunc], .other⟩ else none)
         else some ⟨1, 8, false, [.nilFunc], .other⟩)
        else (bif Nat.blt t 526 then
         some ⟨1, 8, false, [.nilFunc], .other⟩
         else (bif Nat.blt t 529 then
          (bif Nat.beq t 526 then some ⟨1, 8, false, [.pointer none], .other⟩ else none)
          else some ⟨1, 8, false, [.nilFunc], .other⟩)))))
     else (bif Nat.blt t 539 then
      (bif Nat.blt t 534 then
       (bif Nat.blt t 532 then
        (bif Nat.blt t 531 then
         some ⟨1, 8, false, [.nilFunc], .other⟩
         else some ⟨1, 8, false, [.nilFunc], .other⟩)
        else (bif Nat.blt t 533 then
         some ⟨1, 8, false, [.nilFunc], .other⟩
         else some ⟨1, 8, false, [.nilFunc], .other⟩))
       else (bif Nat.blt t 536 then
        (bif Nat.blt t 535 then
         some ⟨1, 8, false, [.nilFunc], .other⟩
         else some ⟨1, 8, false, [.nilFunc], .other⟩)
        else (bif Nat.blt t 537 then
         some ⟨1, 8, false, [.pointer none], .other⟩
         else (bif Nat.blt t 538 then
          some ⟨1, 8, false, [.pointer none], .other⟩
          else some ⟨1, 8, false, [.nilFunc], .other⟩))))
      else (bif Nat.blt t 544 then
       (bif Nat.blt t 541 then
        (bif Nat.blt t 540 then
         some ⟨1, 8, false, [.nilFunc], .other⟩
         else some ⟨1, 8, false, [.pointer none], .other⟩)
        else (bif Nat.blt t 542 then
         some ⟨1, 8, true, [.pointer none], .struct [(0, 1)]⟩
         else (bif Nat.blt t 543 then
          some ⟨1, 8, true, [.pointer none], .struct [(0, 1)]⟩
          else some ⟨1, 8, false, [.nilFunc], .other⟩)))
       else (bif Nat.blt t 546 then
        (bif Nat.blt t 545 then
         some ⟨1, 8, false, [.nilFunc], .other⟩
         else some ⟨1, 8, false, [.nilFunc], .other⟩)
        else (bif Nat.blt t 547 then
         some ⟨1, 8, false, [.nilFunc], .other⟩
         else (bif Nat.blt t 548 then
          some ⟨1, 8, false, [.nilFunc], .other⟩
          else some ⟨1, 8, false, [.pointer none], .other⟩))))))
    else (bif Nat.blt t 570 then
     (bif Nat.blt t 558 then
      (bif Nat.blt t 553 then
       (bif Nat.blt t 551 then
        (bif Nat.blt t 550 then
         some ⟨1, 8, false, [.map none], .other⟩
         else some ⟨2, 16, true, [.map none, .map none], .struct [(0, 1), (1, 1)]⟩)
        else (bif Nat.blt t 552 then
         some ⟨2, 16, true, [.map none, .map none], .struct [(0, 1), (1, 1)]⟩
         else some ⟨1, 8, false, [.nilFunc], .other⟩))
       else (bif Nat.blt t 555 then
        (bif Nat.blt t 554 then
         some ⟨1, 8, false, [.nilFunc], .other⟩
         else some ⟨1, 8, false, [.nilFunc], .other⟩)
        else (bif Nat.blt t 556 then
         some ⟨1, 8, false, [.nilFunc], .other⟩
         else (bif Nat.blt t 557 then
          some ⟨1, 8, false, [.nilFunc], .other⟩
          else some ⟨1, 8, false, [.nilFunc], .other⟩))))
      else (bif Nat.blt t 565 then
       (bif Nat.blt t 560 then
        (bif Nat.blt t 559 then
         some ⟨1, 8, false, [.pointer none], .other⟩
         else some ⟨1, 8, false, [.nilFunc], .other⟩)
        else (bif Nat.blt t 562 then
         (bif Nat.beq t 560 then some ⟨1, 8, false, [.nilFunc], .other⟩ else none)
         else (bif Nat.blt t 563 then
          some ⟨1, 16, true, [.string ⟨#[]⟩], .struct [(0, 1)]⟩
          else (bif Nat.beq t 563 then some ⟨1, 16, true, [.string ⟨#[]⟩], .struct [(0, 1)]⟩ else none))))
       else (bif Nat.blt t 567 then
        (bif Nat.blt t 566 then
         some ⟨1, 8, false, [.pointer none], .other⟩
         else some ⟨1, 8, false, [.nilFunc], .other⟩)
        else (bif Nat.blt t 568 then
         some ⟨1, 8, false, [.pointer none], .other⟩
         else (bif Nat.blt t 569 then
          some ⟨3, 24, true, [.pointer none, .pointer none, .int .i64 0], .struct [(0, 1), (1, 1), (2, 1)]⟩
          else some ⟨3, 24, true, [.pointer none, .pointer none, .int .i64 0], .struct [(0, 1), (1, 1), (2, 1)]⟩)))))
     else (bif Nat.blt t 580 then
      (bif Nat.blt t 575 then
       (bif Nat.blt t 572 then
        (bif Nat.blt t 571 then
         some ⟨1, 8, false, [.nilFunc], .other⟩
         else some ⟨1, 16, false, [.nilIface], .other⟩)
        else (bif Nat.blt t 573 then
         some ⟨1, 16, false, [.nilIface], .other⟩
         else (bif Nat.blt t 574 then
          some ⟨1, 8, false, [.nilFunc], .other⟩
          else some ⟨1, 8, false, [.nilFunc], .other⟩)))
       else (bif Nat.blt t 577 then
        (bif Nat.blt t 576 then
         some ⟨1, 8, false, [.nilFunc], .other⟩
         else some ⟨1, 8, false, [.nilFunc], .other⟩)
        else (bif Nat.blt t 578 then
         some ⟨1, 8, false, [.nilFunc], .other⟩
         else (bif Nat.blt t 579 then
          some ⟨1, 8, false, [.nilFunc], .other⟩
          else some ⟨1, 8, false, [.pointer none], .other⟩))))
      else (bif Nat.blt t 585 then
       (bif Nat.blt t 582 then
        (bif Nat.blt t 581 then
         some ⟨1, 8, false, [.nilFunc], .other⟩
         else some ⟨1, 8, false, [.pointer none], .other⟩)
        else (bif Nat.blt t 583 then
         some ⟨1, 8, false, [.nilFunc], .other⟩
         else (bif Nat.blt t 584 then
          some ⟨1, 8, false, [.nilFunc], .other⟩
          else some ⟨1, 8, false, [.nilFunc], .other⟩)))
       else (bif Nat.blt t 587 then
        (bif Nat.blt t 586 then
         some ⟨1, 8, false, [.nilFunc], .other⟩
         else some ⟨2, 24, true, [.string ⟨#[]⟩, .pointer none], .struct [(0, 1), (1, 1)]⟩)
        else (bif Nat.blt t 588 then
         some ⟨2, 24, true, [.string ⟨#[]⟩, .pointer none], .struct [(0, 1), (1, 1)]⟩
         else (bif Nat.blt t 589 then
          some ⟨1, 8, false, [.nilFunc], .other⟩
          else some ⟨1, 8, false, [.nilFunc], .other⟩)))))))
   else (bif Nat.blt t 631 then
    (bif Nat.blt t 611 then
     (bif Nat.blt t 599 then
      (bif Nat.blt t 594 then
       (bif Nat.blt t 592 then
        (bif Nat.blt t 591 then
         some ⟨2, 16, true, [.int .i64 0, .int .i64 0], .struct [(0, 1), (1, 1)]⟩
         else some ⟨2, 16, true, [.int .i64 0, .int .i64 0], .struct [(0, 1), (1, 1)]⟩)
        else (bif Nat.blt t 593 then
         some ⟨1, 1, true, [.bool false], .struct [(0, 1)]⟩
         else some ⟨1, 1, true, [.bool false], .struct [(0, 1)]⟩))
       else (bif Nat.blt t 596 then
        (bif Nat.blt t 595 then
         some ⟨0, 0, true, [], .struct []⟩
         else some ⟨0, 0, true, [], .struct []⟩)
        else (bif Nat.blt t 597 then
         some ⟨1, 8, true, [.int .i64 0], .struct [(0, 1)]⟩
         else (bif Nat.blt t 598 then
          some ⟨1, 8, true, [.int .i64 0], .struct [(0, 1)]⟩
          else some ⟨1, 8, false, [.nilFunc], .other⟩))))
      else (bif Nat.blt t 605 then
       (bif Nat.blt t 601 then
        (bif Nat.blt t 600 then
         some ⟨1, 8, false, [.nilFunc], .other⟩
         else some ⟨1, 8, false, [.nilFunc], .other⟩)
        else (bif Nat.blt t 602 then
         some ⟨1, 8, false, [.pointer none], .other⟩
         else (bif Nat.blt t 603 then
          some ⟨1, 8, false, [.nilFunc], .other⟩
          else (bif Nat.beq t 603 then some ⟨1, 8, false, [.nilFunc], .other⟩ else none))))
       else (bif Nat.blt t 607 then
        (bif Nat.blt t 606 then
         some ⟨1, 8, false, [.nilFunc], .other⟩
         else some ⟨1, 8, false, [.nilFunc], .other⟩)
        else (bif Nat.blt t 608 then
         some ⟨1, 8, false, [.nilFunc], .other⟩
         else (bif Nat.blt t 609 then
          some ⟨1, 8, false, [.nilFunc], .other⟩
          else (bif Nat.beq t 609 then some ⟨1, 8, false, [.int .i64 0], .int .i64⟩ else none))))))
     else (bif Nat.blt t 620 then
      (bif Nat.blt t 615 then
       (bif Nat.blt t 613 then
        (bif Nat.blt t 612 then
         some ⟨1, 8, false, [.nilFunc], .other⟩
         else some ⟨1, 8, false, [.nilFunc], .other⟩)
        else (bif Nat.blt t 614 then
         some ⟨1, 8, false, [.nilFunc], .other⟩
         else some ⟨1, 8, false, [.nilFunc], .other⟩))
       else (bif Nat.blt t 617 then
        (bif Nat.blt t 616 then
         some ⟨1, 8, false, [.pointer none], .other⟩
         else some ⟨1, 8, false, [.nilFunc], .other⟩)
        else (bif Nat.blt t 618 then
         some ⟨1, 8, false, [.pointer none], .other⟩
         else (bif Nat.blt t 619 then
          some ⟨1, 8, false, [.nilFunc], .other⟩
          else some ⟨1, 8, false, [.nilFunc], .other⟩))))
      else (bif Nat.blt t 625 then
       (bif Nat.blt t 622 then
        (bif Nat.blt t 621 then
         some ⟨1, 8, false, [.nilFunc], .other⟩
         else some ⟨1, 8, false, [.nilFunc], .other⟩)
        else (bif Nat.blt t 623 then
         some ⟨1, 8, false, [.int .u64 0], .int .u64⟩
         else (bif Nat.blt t 624 then
          some ⟨1, 8, false, [.nilFunc], .other⟩
          else some ⟨1, 8, false, [.nilFunc], .other⟩)))
       else (bif Nat.blt t 627 then
        (bif Nat.blt t 626 then
         some ⟨1, 8, false, [.pointer none], .other⟩
         else some ⟨1, 8, false, [.nilFunc], .other⟩)
        else (bif Nat.blt t 629 then
         (bif Nat.beq t 627 then some ⟨1, 8, false, [.nilFunc], .other⟩ else none)
         else (bif Nat.blt t 630 then
          some ⟨2, 2, true, [.int .u8 0, .int .u8 0], .struct [(0, 1), (1, 1)]⟩
          else some ⟨2, 2, true, [.int .u8 0, .int .u8 0], .struct [(0, 1), (1, 1)]⟩))))))
    else (bif Nat.blt t 652 then
     (bif Nat.blt t 641 then
      (bif Nat.blt t 636 then
       (bif Nat.blt t 634 then
        (bif Nat.blt t 632 then
         some ⟨32, 32, true, [.int .u8 0, .int .u8 0, .int .u8 0, .int .u8 0, .int .u8 0, .int .u8 0, .int .u8 0, .int .u8 0, .int .u8 0, .int .u8 0, .int .u8 0, .int .u8 0, .int .u8 0, .int .u8 0, .int .u8 0, .int .u8 0, .int .u8 0, .int .u8 0, .int .u8 0, .int .u8 0, .int .u8 0, .int .u8 0, .int .u8 0, .int .u8 0, .int .u8 0, .int .u8 0, .int .u8 0, .int .u8 0, .int .u8 0, .int .u8 0, .int .u8 0, .int .u8 0], .arr 16 630⟩
         else (bif Nat.beq t 632 then some ⟨1, 8, false, [.pointer none], .other⟩ else none))
        else (bif Nat.blt t 635 then
         some ⟨1, 8, false, [.nilFunc], .other⟩
         else some ⟨1, 8, false, [.nilFunc], .other⟩))
       else (bif Nat.blt t 638 then
        (bif Nat.blt t 637 then
         some ⟨4, 40, true, [.pointer none, .pointer none, .pointer none, .string ⟨#[]⟩], .struct [(0, 1), (1, 1), (2, 1), (3, 1)]⟩
         else some ⟨4, 40, true, [.pointer none, .pointer none, .pointer none, .string ⟨#[]⟩], .struct [(0, 1), (1, 1), (2, 1), (3, 1)]⟩)
        else (bif Nat.blt t 639 then
         some ⟨0, 0, true, [], .arr 0 16⟩
         else (bif Nat.blt t 640 then
          some ⟨0, 0, true, [], .struct [(0, 0)]⟩
          else some ⟨0, 0, true, [], .struct [(0, 0)]⟩))))
      else (bif Nat.blt t 646 then
       (bif Nat.blt t 643 then
        (bif Nat.blt t 642 then
         some ⟨1, 1, false, [.int .u8 0], .int .u8⟩
         else some ⟨1, 1, false, [.int .u8 0], .int .u8⟩)
        else (bif Nat.blt t 644 then
         some ⟨1, 8, false, [.nilFunc], .other⟩
         else (bif Nat.blt t 645 then
          some ⟨1, 4, false, [.int .i32 0], .int .i32⟩
          else some ⟨1, 4, false, [.int .i32 0], .int .i32⟩)))
       else (bif Nat.blt t 648 then
        (bif Nat.blt t 647 then
         some ⟨11, 48, true, [.int .u64 0, .int .u64 0, .int .u32 0, .int .u8 0, .int .u8 0, .int .u8 0, .int .u8 0, .nilFunc, .pointer none, .int .i32 0, .int .i32 0], .struct [(0, 1), (1, 1), (2, 1), (3, 1), (4, 1), (5, 1), (6, 1), (7, 1), (8, 1), (9, 1), (10, 1)]⟩
         else some ⟨11, 48, true, [.int .u64 0, .int .u64 0, .int .u32 0, .int .u8 0, .int .u8 0, .int .u8 0, .int .u8 0, .nilFunc, .pointer none, .int .i32 0, .int .i32 0], .struct [(0, 1), (1, 1), (2, 1), (3, 1), (4, 1), (5, 1), (6, 1), (7, 1), (8, 1), (9, 1), (10, 1)]⟩)
        else (bif Nat.blt t 649 then
         some ⟨12, 96, true, [.int .u64 0, .int .i64 0, .int .i64 0, .int .i64 0, .int .i64 0, .int .i64 0, .int .i64 0, .int .i64 0, .int .i64 0, .int .i64 0, .int .i64 0, .int .i64 0], .struct [(0, 1), (1, 1), (2, 1), (3, 9)]⟩
         else (bif Nat.blt t 651 then
          (bif Nat.beq t 649 then some ⟨12, 96, true, [.int .u64 0, .int .i64 0, .int .i64 0, .int .i64 0, .int .i64 0, .int .i64 0, .int .i64 0, .int .i64 0, .int .i64 0, .int .i64 0, .int .i64 0, .int .i64 0], .struct [(0, 1), (1, 1), (2, 1), (3, 9)]⟩ else none)
          else some ⟨1, 8, false, [.nilFunc], .other⟩)))))
     else (bif Nat.blt t 663 then
      (bif Nat.blt t 658 then
       (bif Nat.blt t 655 then
        (bif Nat.blt t 654 then
         (bif Nat.beq t 652 then some ⟨1, 8, false, [.nilFunc], .other⟩ else none)
         else some ⟨1, 8, false, [.nilFunc], .other⟩)
        else (bif Nat.blt t 656 then
         some ⟨1, 8, false, [.nilFunc], .other⟩
         else (bif Nat.blt t 657 then
          some ⟨1, 8, false, [.nilFunc], .other⟩
          else some ⟨1, 8, false, [.nilFunc], .other⟩)))
       else (bif Nat.blt t 660 then
        (bif Nat.blt t 659 then
         some ⟨1, 8, false, [.nilFunc], .other⟩
         else some ⟨1, 8, false, [.nilFunc], .other⟩)
        else (bif Nat.blt t 661 then
         some ⟨1, 8, false, [.nilFunc], .other⟩
         else (bif Nat.blt t 662 then
          some ⟨1, 8, false, [.nilFunc], .other⟩
          else some ⟨1, 8, false, [.nilFunc], .other⟩))))
      else (bif Nat.blt t 668 then
       (bif Nat.blt t 665 then
        (bif Nat.blt t 664 then
         some ⟨1, 8, false, [.nilFunc], .other⟩
         else some ⟨1, 8, false, [.nilFunc], .other⟩)
        else (bif Nat.blt t 666 then
         some ⟨1, 8, false, [.nilFunc], .other⟩
         else (bif Nat.blt t 667 then
          some ⟨1, 8, false, [.pointer none], .other⟩
          else some ⟨3, 24, true, [.pointer none, .int .i64 0, .int .i64 0], .struct [(0, 1), (1, 1), (2, 1)]⟩)))
       else (bif Nat.blt t 670 then
        (bif Nat.blt t 669 then
         some ⟨3, 24, true, [.pointer none, .int .i64 0, .int .i64 0], .struct [(0, 1), (1, 1), (2, 1)]⟩
         else some ⟨1, 8, false, [.nilFunc], .other⟩)
        else (bif Nat.blt t 671 then
         some ⟨27, 216, true, [.pointer none, .int .i64 0, .int .i64 0, .pointer none, .int .i64 0, .int .i64 0, .pointer none, .int .i64 0, .int .i64 0, .pointer none, .int .i64 0, .int .i64 0, .pointer none, .int .i64 0, .int .i64 0, .pointer none, .int .i64 0, .int .i64 0, .pointer none, .int .i64 0, .int .i64 0, .pointer none, .int .i64 0, .int .i64 0, .pointer none, .int .i64 0, .int .i64 0], .arr 9 668⟩
         else (bif Nat.blt t 672 then
          some ⟨1, 8, false, [.nilFunc], .other⟩
          else some ⟨1, 8, false, [.nilFunc], .other⟩))))))))))
def Tryz.tab : Tab := mkTab 673 Tryz.tabF
theorem Tryz.tabOK : TabOK Tryz.prog Tryz.tab := Go.Sy.tabOK (by kernel_rfl)

theorem Tryz.wide_ : Tryz.prog.follows .mixedOrders = true := by kernel_rfl
end Go.Proofs

/- The symbolic walk, part 60: a law's row by a contract that knows a library's variable. -/
set_option linter.unusedSimpArgs false
set_option linter.unusedVariables false
namespace Go.Sy
open Go.RowKit Go.WideShapes Go.ChangeShapes

end Go.Sy

/- The rows of the great seat: what they share. -/
set_option linter.unusedSimpArgs false
set_option linter.unusedVariables false
set_option maxRecDepth 100000
namespace Go.Proofs.YtloefdcbeakibaaGreatDoor
open Go.Sy Go.RowKit Go.ChangeShapes Go.WideShapes Go.ChangeAt

theorem own : ownKnob Tryz.prog.godebug = none := by kernel_rfl
/-- A row that lists variables, and whose contract asks what a library's own variable holds. -/
theorem handed_laid_shaped {H : Type} {enc : TypeId × Value → H} {a : Assume} {C : Checked} {os : Os} {f : FuncId} {fn : Func} {s : ChangeSpec} {conds : List PathCond} {apart fresh handsOn again : Bool} {Y : World → Prop} (hY : ∀ w w' : World, w.heap = w'.heap → Y w → Y w')
    (own : ownKnob C.prog.godebug = none) (started : os.Started) (noInit : C.prog.inits.idxOf? f = none) (hfn : C.prog.funcs[f]? = some fn)
    (witness : ∃ (w : World) (tape : Tape) (i : Input), w.os = os ∧ (w.forCall tape i).Shaped C.prog ∧ i.vars = [] ∧ Input.okWide C.prog (w.forCall tape i) .any w.heap.size f i ∧
      ((s.pre enc C.prog fn conds apart (w.forCall tape i).memory i.args ∧ Y (w.forCall tape i).memory) ∧ sizedMet enc C.prog fn (OpenSpec.ofChange s) apart (w.forCall tape i).memory i.args) ∧ a.holds C.prog (lone (Frame.enter C.prog f i.args .normal) [] (w.forCall tape i)))
    (k : ∀ (W : World) (base : Nat) (args : Array Value) (ds gs : List (DataW H)) (before : List MemPlace), (∀ (j : Nat) t v, fn.params[j]? = some t → args[j]? = some v → Value.okWide C.prog W .any base t v) → DataW.Whole enc C.prog fn.params.toList s.vars apart W args.toList ds gs before → Y W → W.ShapedOpen C.prog →
      Calls C.prog f args W fun e W' => ∃ v, e = .returned v ∧ s.post enc C.prog fn apart fresh handsOn again W args v W') :
    ReturnsInHanded a C os f .any (fun w args => (s.pre enc C.prog fn conds apart w args ∧ Y w) ∧ sizedMet enc C.prog fn (OpenSpec.ofChange s) apart w args) (s.post enc C.prog fn apart fresh handsOn again) := by
  refine returnsInHanded_of_calls own started noInit witness ?_
  rintro w tape i - hsh - ⟨-, -, -, g, hg, -, -, -, -, hval⟩ ⟨⟨⟨ds, gs, before, hw, -⟩, hy⟩, -⟩ -
  cases Option.some.inj (hg.symm.trans hfn)
  exact (k (w.forCall tape i) w.heap.size i.args ds gs before hval (DataW.Whole.of_heap (w := (w.forCall tape i).memory) (w' := w.forCall tape i) (by rfl) hw) (hY (w.forCall tape i).memory (w.forCall tape i) (by rfl) hy) hsh).mono (fun e W' ⟨v, he, hp⟩ => he ▸ ChangeSpec.post_blind hp)
/-- No text of the program starts a goroutine. -/
theorem goes_none {P : Program} (h : P.funcs.toList.any Func.goes = false) (c : OpenClaim) (hs : c.start = .entering) : false = c.goesBy P := by
  have h1 : ∀ g : Nat, (P.funcs[g]?).any Func.goes = false := fun g => by
    cases hg : P.funcs[g]? with
    | none => rfl
    | some fn =>
      have hm : fn ∈ P.funcs.toList := by
        rw [Array.mem_toList_iff]
        exact Array.mem_of_getElem? hg
      show Func.goes fn = false
      rw [List.any_eq_false] at h
      simpa using h fn hm
  have h2 : ∀ f, P.goes f = false := fun f => by
    unfold Program.goes
    rw [Bool.or_eq_false_iff]
    refine ⟨?_, ?_⟩
    · rw [List.any_eq_false]
      intro g _
      rw [h1 g]
      decide
    · have : P.funcs.any Func.goes = false := by
        rw [← Array.any_toList]
        exact h
      rw [this, Bool.and_false]
  unfold OpenClaim.goesBy Program.goesAt Program.goesFrom
  rw [hs]
  cases P.funcNamed c.func with
  | none => rfl
  | some f => show false = (P.goes f || false); rw [h2 f]; rfl
theorem noGo : Tryz.prog.funcs.toList.any Func.goes = false := by kernel_rfl
end Go.Proofs.YtloefdcbeakibaaGreatDoor

/- The symbolic walk, part 68: a law's row where the reach of what came in is wanted (how many bytes a slice has). -/
set_option linter.unusedSimpArgs false
set_option linter.unusedVariables false
namespace Go.Sy
open Go.RowKit Go.WideShapes Go.ChangeShapes

end Go.Sy

/- The symbolic walk, part 66: make([]T, m), elements of any size. -/
set_option linter.unusedSimpArgs false
set_option linter.unusedVariables false
namespace Go.Sy
open Go.RowKit

section
variable {P : Program} {T : Tab} {X : Ctx P T} {n : Nat} {e : Env} {st : St} {a : Act} {w : World} {ops : Array Oper} {K : St → Prop}

end
end Go.Sy

/- The symbolic walk, part 52: a field of a struct that is a value. -/
set_option linter.unusedSimpArgs false
set_option linter.unusedVariables false
namespace Go.Sy
open Go.RowKit

section
variable {P : Program} {T : Tab} {X : Ctx P T} {n : Nat} {e : Env} {st : St} {a : Act} {w : World} {ops : Array Oper} {K : St → Prop}

end
end Go.Sy

/- The symbolic walk, part 67: a field of a struct value that is a struct. -/
set_option linter.unusedSimpArgs false
set_option linter.unusedVariables false
namespace Go.Sy
open Go.RowKit

section
variable {P : Program} {T : Tab} {X : Ctx P T} {n : Nat} {e : Env} {st : St} {a : Act} {w : World} {ops : Array Oper} {K : St → Prop}

end
end Go.Sy

/- The symbolic walk, part 69: entries of maps' literals; arrays that lie at a known place, indexed. -/
set_option linter.unusedSimpArgs false
set_option linter.unusedVariables false
namespace Go.Sy
open Go.RowKit Go.MapKept
section
variable {P : Program} {T : Tab} {X : Ctx P T} {n : Nat} {ops : Array Oper}
/-- An entry of a map's literal. -/
theorem X_ins (q : Nat) {α : Type} [DecidableEq α] {kt et mt : TypeId} (K : Key P kt α) {p : Pl} {b : Nat} {es : List (α × AV)} {m x y : Operand} {k : α} {av : AV} {ty : TypeId} {pos : String} {aft : Array Edge} {gd : Option (Nat × Bool)} {j : Nat} {Si : List (Nat × AV)} {c cr : List Ch}
    (hm : P.underlying mt = some (.map kt et)) (hsb : ∀ k, Instr.sameBits 10000 (K.kv k) (K.kv k) = true)
    (hg : guardA ops ⟨Si, c⟩ ⟨none, .insert mt m x y, ty, pos, aft, gd⟩ = some true) (hmo : opd Si m = some (.v (.map (some b)))) (hx : opd Si x = some (.v (K.kv k))) (hy : opd Si y = some av) (himm : av.imm = true) (hp : nthA q c = some (mapA K.kv (some b) es, cr)) :
    StepX X n ops p Si c (.abs (mapA K.kv (some b) (updE k av es)) :: cr) j ⟨none, .insert mt m x y, ty, pos, aft, gd⟩ .bad :=
  StepX.skip hg rfl (fun e a w S r r' => by
    have h1 := opd_sound r' hmo
    have h2 := opd_sound r' hx
    have h3 := opd_sound r' hy
    simp only [Rep] at h1 h2
    obtain ⟨⟨arr, cl, g1, g2, g3, g4, g5⟩, _⟩ := r.heap.nth hp
    have hlt : b < w.heap.size := (Array.getElem?_eq_some_iff.1 g1).1
    have fin : ∀ (arr' : Array MapEntry) (cl' : Nat), (Instr.mapUpdate mt (.map (some b)) (K.kv k) (a.eval y)).run P w = .ok () { w with heap := w.heap.setIfInBounds b (.map arr' cl') } →
        arr'.toList.map (·.key) = (updE k av es).map (fun q => K.kv q.1) → RepIT e.G ((updE k av es).map (·.2)) (arr'.toList.map (·.val)) → (arr'.toList.map (·.born)).Nodup → (∀ x ∈ arr'.toList, x.born < cl') →
        ∃ w' e', (execOp a.eval ⟨none, .insert mt m x y, ty, pos, aft, gd⟩).run P w = .ok .skip w' ∧ Rel X n e' ⟨S, .abs (mapA K.kv (some b) (updE k av es)) :: cr⟩ a w' := by
      intro arr' cl' hrun k1 k2 k3 k4
      refine ⟨{ w with heap := w.heap.setIfInBounds b (.map arr' cl') }, e, by simp only [execOp, h1, h2, Sem.run_bind, hrun, Result.andThen_ok, Sem.run_pure], r.absTurn (st := ⟨S, c⟩) hp rfl ⟨arr', cl', by simp [hlt], k1, k2, k3, k4⟩ (fun b' hb' => ?_) ⟨rfl, rfl, rfl⟩ (by simp)⟩
      have hne : b ≠ b' := fun hh => hb' (by subst hh; simp [mapA])
      simp [hne]
    rcases find_map K e.G k arr.toList es 0 g2 g3 with ⟨f1, f2⟩ | ⟨jj, en, xx, f1, f2, f3, f4, f5, f6⟩
    · have hf := run_findKey (w := w) K.hd f1
      refine fin (arr.push ⟨K.kv k, a.eval y, cl⟩) (cl + 1) ?_ ?_ ?_ ?_ ?_
      · simp [Instr.mapUpdate, run_underlying hm, MapKept.run_getObj_map g1, run_checkKey K.hd (K.ik k), hf, MapKept.run_setObj_map _ g1]
      · rw [updE_new f2]; simp [g2]
      · rw [updE_new f2]
        simp only [Array.toList_push, List.map_append, List.map_cons, List.map_nil]
        exact RepIT.app g3 (by simp only [RepIT]; exact ⟨_, [], rfl, Rep.toI av himm h3, rfl⟩)
      · simp only [Array.toList_push, List.map_append, List.map_cons, List.map_nil]
        refine List.nodup_append.2 ⟨g4, by simp, ?_⟩
        intro u hu v hv
        simp only [List.mem_singleton] at hv
        subst hv
        obtain ⟨xx, hxx, rfl⟩ := List.mem_map.1 hu
        exact Nat.ne_of_lt (g5 xx hxx)
      · intro xx hxx
        simp only [Array.toList_push, List.mem_append, List.mem_singleton] at hxx
        rcases hxx with hxx | rfl
        · exact Nat.lt_succ_of_lt (g5 xx hxx)
        · exact Nat.lt_succ_self _
    · rw [Nat.zero_add] at f1
      have hf := run_findKey (w := w) K.hd f1
      have f2' : arr[jj]? = some en := by simpa using f2
      obtain ⟨u1, u2⟩ := f6 av
      refine fin (arr.modify jj fun e => { e with key := K.kv k, val := a.eval y }) cl ?_ ?_ ?_ ?_ ?_
      · have hks : (Instr.keyThatStays (K.kv k) (K.kv k)).run P w = .ok (K.kv k) w := by simp [Instr.keyThatStays, hsb k]
        simp [Instr.mapUpdate, run_underlying hm, MapKept.run_getObj_map g1, run_checkKey K.hd (K.ik k), hf, f2', f3, hks, MapKept.run_setObj_map _ g1]
      · rw [u1, ← g2]; exact map_modify_key f2' f3.symm
      · rw [u2, map_modify_val f2']
        exact repIT_set jj g3 (Rep.toI av himm h3)
      · rw [map_modify_born (f := fun e => { e with key := K.kv k, val := a.eval y }) (fun e => rfl)]; exact g4
      · intro xx hxx
        have : xx.born ∈ (arr.modify jj fun e => { e with key := K.kv k, val := a.eval y }).toList.map (·.born) := List.mem_map.2 ⟨xx, hxx, rfl⟩
        rw [map_modify_born (f := fun e => { e with key := K.kv k, val := a.eval y }) (fun e => rfl)] at this
        obtain ⟨y', hy', e'⟩ := List.mem_map.1 this
        rw [← e']; exact g5 y' hy')

/-- &a[i], a an array that lies at a known place. -/
theorem X_idxP {p : Pl} {t el len sz g o : Nat} {x iop : Operand} {kk : IntKind} {i : Int} {d : Option Nat} {ty : TypeId} {pos : String} {aft : Array Edge} {gd : Option (Nat × Bool)} {j : Nat} {Si : List (Nat × AV)} {c : List Ch}
    {s0 b0 b1 : Nat} {ag0 ag1 : Bool} {zero z0 : List Value} {d0 : TD} (ht : T t = some ⟨s0, b0, ag0, zero, .arr len el⟩) (hel : T el = some ⟨sz, b1, ag1, z0, d0⟩) (h0 : 0 ≤ i) (h1 : i < len)
    (hg : guardA ops ⟨Si, c⟩ ⟨d, .indexAddr t x iop, ty, pos, aft, gd⟩ = some true) (hx : opd Si x = some (.v (.pointer (some ⟨g, o, none⟩)))) (hi : opd Si iop = some (.v (.int kk i))) (hd : dstOK n d = true) :
    StepX X n ops p Si c c j ⟨d, .indexAddr t x iop, ty, pos, aft, gd⟩ (.v (.pointer (some ⟨g, o + i.toNat * sz, none⟩))) :=
  StepX.val hg hd (fun e a w S r r' => by
    have hT := X.ok
    obtain ⟨dd, e4, _, e5⟩ := (hT _ _ ht).desc
    simp only [TDOK] at e5
    subst e5
    have hsz := fun w => hT.size hel w
    have e1 := opd_sound r' hx
    have e2 := opd_sound r' hi
    simp only [Rep] at e1 e2
    refine ⟨.pointer (some ⟨g, o + i.toNat * sz, none⟩), w, e, ?_, r, by simp [Rep]⟩
    simp only [execOp, e1, e2, Instr.indexAt, asIntOf, Instr.sureAddr, Sem.run_bind, Sem.run_pure, Result.andThen_ok, run_underlying e4, hsz]
    simp [run_underlying e4, h0, h1, hsz, add_addr])
end
end Go.Sy

/- The symbolic walk, part 61: owned memory lent to a callee that only reads. -/
set_option linter.unusedSimpArgs false
set_option linter.unusedVariables false
namespace Go.Sy
open Go.RowKit Go.WideShapes Go.ChangeShapes

end Go.Sy

/- The symbolic walk, part 62: structs of numbers and texts compared. -/
set_option linter.unusedSimpArgs false
set_option linter.unusedVariables false
namespace Go.Sy
open Go.RowKit
section
variable {P : Program} {T : Tab} {X : Ctx P T} {n : Nat} {e : Env} {st : St} {a : Act} {w : World} {ops : Array Oper} {K : St → Prop}

theorem X_aggC {p : Pl} {t : TypeId} {op : BinOp} {x y : Operand} {cs ds : List AV} {us vs : Array Value} {b : Bool} {d : Option Nat} {uy ty : TypeId} {pos : String} {aft : Array Edge} {gd : Option (Nat × Bool)} {j : Nat} {Si : List (Nat × AV)} {c : List Ch}
    (hu : ∀ e (ys : List Value), RepL e cs ys → ys = us.toList) (hv : ∀ e (ys : List Value), RepL e ds ys → ys = vs.toList) (hb : ∀ w, (Op.equalIn 10000 t (.agg us) (.agg vs)).run P w = .ok b w) (hgt : P.eqGuardType P.depth t = false) (hop : op = .eql ∨ op = .neq)
    (hg : guardA ops ⟨Si, c⟩ ⟨d, .binOp op t x y uy, ty, pos, aft, gd⟩ = some true) (hx : opd Si x = some (.agg cs)) (hy : opd Si y = some (.agg ds)) (hd : dstOK n d = true) :
    StepX X n ops p Si c c j ⟨d, .binOp op t x y uy, ty, pos, aft, gd⟩ (B (eqB op b)) :=
  StepX.val hg hd (fun e a w S r r' => by
    have h1 := opd_sound r' hx
    have h2 := opd_sound r' hy
    simp only [Rep] at h1 h2
    obtain ⟨ys, e1, r1⟩ := h1
    obtain ⟨zs, e2, r2⟩ := h2
    have hy1 : ys = us := Array.ext' (hu e _ r1)
    have hz1 : zs = vs := Array.ext' (hv e _ r2)
    subst hy1 hz1
    refine ⟨.bool (eqB op b), w, e, ?_, r, by simp [Rep]⟩
    rcases hop with rfl | rfl
    · simp only [execOp, e1, e2, Sem.run_bind, run_eqGuard_agg w _ _ _ _ _ _ hgt, Result.andThen_ok, run_eql_struct, hb, Sem.run_pure, eqB]
    · simp only [execOp, e1, e2, Sem.run_bind, run_eqGuard_agg w _ _ _ _ _ _ hgt, Result.andThen_ok, run_neq_struct, hb, Sem.run_pure, eqB])
end
end Go.Sy

/- The symbolic walk, part 53: a struct stored in a part of a known box. -/
set_option linter.unusedSimpArgs false
set_option linter.unusedVariables false
namespace Go.Sy
open Go.RowKit

/-- Several cells of memory may be turned. -/
def WritesN (A : Abs) (b o : Nat) (new : List AV) (A' : Abs) : Prop :=
  b ∈ A.bs ∧ A'.bs = A.bs ∧ ∀ (G : IM) (w : World) (ys : List Value), A.ok G w → RepIL G new ys →
    ∃ cur tt, w.heap[b]? = some (.cells cur tt (0, 0)) ∧ o + ys.length ≤ cur.size ∧ ∀ w', w'.heap[b]? = some (.cells (writeAt cur o ys) tt (0, 0)) → A'.ok G w'

theorem writesN_box {b : Nat} {t : TypeId} {cells new : List AV} {o : Nat} (ho : o + new.length ≤ cells.length) : WritesN (boxA b t cells) b o new (boxA b t (cells.take o ++ new ++ cells.drop (o + new.length))) := by
  refine ⟨by simp [boxA], rfl, ?_⟩
  rintro G w ys ⟨arr, h1, h2⟩ hx
  have hl := RepIL.len h2
  have hl2 := RepIL.len hx
  simp only [Array.length_toList] at hl
  have hfit : o + ys.length ≤ arr.size := by omega
  refine ⟨arr, t, h1, hfit, fun w' hw => ⟨_, hw, RepIL.mk ?_ (fun j c hc => ?_)⟩⟩
  · simp only [Array.length_toList, writeAt_size, List.length_append, List.length_take, List.length_drop]; omega
  · rw [Array.getElem?_toList, writeAt_get _ _ _ _ hfit]
    by_cases hj : j < o
    · rw [List.append_assoc, List.getElem?_append_left (by rw [List.length_take]; omega), List.getElem?_take, if_pos hj] at hc
      rw [if_neg (by omega)]
      obtain ⟨z, z1, z2, z3⟩ := h2.get _ c hc
      exact ⟨z, by simpa using z1, z2, z3⟩
    · by_cases hj2 : j < o + new.length
      · rw [List.append_assoc, List.getElem?_append_right (by rw [List.length_take]; omega), List.length_take, List.getElem?_append_left (by omega)] at hc
        rw [if_pos (by omega)]
        obtain ⟨z, z1, z2, z3⟩ := hx.get _ c hc
        rw [show j - min o cells.length = j - o by omega] at z1
        exact ⟨z, z1, z2, z3⟩
      · rw [List.getElem?_append_right (by simp only [List.length_append, List.length_take]; omega), List.getElem?_drop] at hc
        rw [if_neg (by omega)]
        obtain ⟨z, z1, z2, z3⟩ := h2.get _ c hc
        simp only [List.length_append, List.length_take] at z1
        rw [show o + new.length + (j - (min o cells.length + new.length)) = j by omega] at z1
        exact ⟨z, by simpa using z1, z2, z3⟩

section
variable {P : Program} {T : Tab} {X : Ctx P T} {n : Nat} {e : Env} {st : St} {a : Act} {w : World} {ops : Array Oper} {K : St → Prop}

/-- p.f = x, x of several cells. -/
theorem X_storeB (q : Nat) {p : Pl} {A A' : Abs} {t : TypeId} {esz by_ : Nat} {z : List Value} {dd : TD} {ad xo : Operand} {b o : Nat} {new : List AV} {ty : TypeId} {pos : String} {aft : Array Edge} {gd : Option (Nat × Bool)} {jj : Nat} {Si : List (Nat × AV)} {c cr : List Ch}
    (hW : WritesN A b o new A') (hg : guardA ops ⟨Si, c⟩ ⟨none, .store t ad xo, ty, pos, aft, gd⟩ = some true) (hT : T t = some ⟨esz, by_, true, z, dd⟩) (hp : nthA q c = some (A, cr)) (had : opd Si ad = some (PT b o)) (hx : opd Si xo = some (.agg new)) (hlen : new.length = esz) (himm : AV.imm.immL new = true) :
    StepX X n ops p Si c (.abs A' :: cr) jj ⟨none, .store t ad xo, ty, pos, aft, gd⟩ .bad :=
  StepX.skip hg rfl (fun e a w S r r' => by
    have h1 := opd_sound r' had
    have h2 := opd_sound r' hx
    simp only [Rep] at h1 h2
    obtain ⟨ys, h2, h3⟩ := h2
    obtain ⟨hok, _⟩ := r.heap.nth hp
    have hri := RepL.toI new himm h3
    obtain ⟨cur, tt, hgc, hfit, hA'⟩ := hW.2.2 _ _ _ hok hri
    have hyl : ys.toList.length = esz := by rw [← hlen]; exact RepIL.len hri
    have hone : ∀ v ∈ ys.toList, v.oneCell' = true := RepL.one h3
    have hrun0 := run_storeCells_cells (P := P) b o ys.toList 0 w (fun j hj => by
        rw [Nat.add_zero, cell_of_row w b _ cur tt (0, 0) hgc]
        rw [Array.getElem?_eq_getElem (by omega)]; rfl) (fun j hj => by simp [World.frozen?, hgc]) hone
    rw [Nat.add_zero] at hrun0
    have hsz : ys.size = esz := by simpa using hyl
    have hrun : (execOp a.eval ⟨none, .store t ad xo, ty, pos, aft, gd⟩).run P w = .ok .skip (w.setCells b o ys.toList) := by
      simp only [execOp, Instr.storeAt, h1, h2, Instr.sureAddr, Sem.run_bind, Sem.run_pure, Result.andThen_ok, storeVar, X.ok.size hT]
      have hc : (Value.agg ys).cells = ys := rfl
      simp [hc, hsz, hrun0]
    refine ⟨_, e, hrun, r.absTurn (st := ⟨S, c⟩) hp hW.2.1 ?_ (fun b' hb => ?_) ?_ ?_⟩
    · exact hA' _ (setCells_heap ys.toList b o w cur tt (0, 0) hgc)
    · exact setCells_other ys.toList b o b' w (fun he => hb (by subst he; exact hW.1))
    · exact (setCells_misc ys.toList b o w).2
    · exact (setCells_misc ys.toList b o w).1)
end
end Go.Sy

/- The symbolic walk, part 54: regions whose order is drawn, with operations that turn memory, not all of these one behind the other. -/
set_option linter.unusedSimpArgs false
set_option linter.unusedVariables false
namespace Go.Sy
open Go.RowKit

def setM (L : Nat → Bool) (i : Nat) : Nat → Bool := fun k => if k = i then true else L k

section
variable {P : Program} {T : Tab} {X : Ctx P T} {n : Nat} {e : Env} {st : St} {a : Act} {w : World} {ops : Array Oper} {K : St → Prop}

/-- The ways through the list. -/
def SymM {P : Program} {T : Tab} (X : Ctx P T) (n : Nat) (ops : Array Oper) (p : Pl) (base : List (Nat × AV)) (C : (Nat → Bool) → List Ch) (K : St → Prop) : List Oper → Done → Prop
  | [], done => K ⟨finS base (killD p done), C (fun _ => true)⟩
  | o :: rest, done => ∃ x, (p.creB done.length x = true ∧ ∀ L : Nat → Bool, (∀ a ∈ p.anc done.length, L a = true) → (∀ q, done.length ∈ p.anc q → L q = false) → L done.length = false → StepX X n ops p (availX p done.length done o.after.toList base) (C L) (if done.length ∈ p.E then C (setM L done.length) else C L) done.length o x) ∧
      SymM X n ops p base C K rest (done ++ [(o.dst, x)])

theorem SymM.plan {p : Pl} {base : List (Nat × AV)} {C : (Nat → Bool) → List Ch} : ∀ {l : List Oper} {done : Done}, SymM X n ops p base C K l done →
    ∃ D : Done, done <+: D ∧ D.length = done.length + l.length ∧ K ⟨finS base (killD p D), C (fun _ => true)⟩ ∧
      ∀ i o, l[i]? = some o → ∃ x, D[done.length + i]? = some (o.dst, x) ∧ p.creB (done.length + i) x = true ∧
        ∀ L : Nat → Bool, (∀ a ∈ p.anc (done.length + i), L a = true) → (∀ q, done.length + i ∈ p.anc q → L q = false) → L (done.length + i) = false → StepX X n ops p (availX p (done.length + i) (D.take (done.length + i)) o.after.toList base) (C L) (if done.length + i ∈ p.E then C (setM L (done.length + i)) else C L) (done.length + i) o x
  | [], done, h => ⟨done, List.prefix_refl _, by simp, h, fun i o hi => by simp at hi⟩
  | o :: rest, done, h => by
    obtain ⟨x, h1, h2⟩ := h
    obtain ⟨D, hp, hl, hK, hs⟩ := SymM.plan h2
    have hp' : done <+: D := (List.prefix_append done _).trans hp
    refine ⟨D, hp', by simp at hl ⊢; omega, hK, fun i o' hi => ?_⟩
    cases i with
    | zero =>
      simp only [List.getElem?_cons_zero, Option.some.injEq] at hi
      subst hi
      refine ⟨x, ?_, ?_⟩
      · obtain ⟨t, rfl⟩ := hp
        simp
      · obtain ⟨t, rfl⟩ := hp'
        simpa using h1
    | succ i =>
      obtain ⟨y, g1, g2⟩ := hs i o' (by simpa using hi)
      refine ⟨y, ?_, ?_⟩
      · simpa [Nat.add_assoc, Nat.add_comm 1 i] using g1
      · simpa [Nat.add_assoc, Nat.add_comm 1 i] using g2

/-- One step of a drawn region of effects, by reckoning: an operation that needs no memory. -/
def stepMK {P : Program} {T : Tab} (X : Ctx P T) (n : Nat) (ops : Array Oper) (p : Pl) (base : List (Nat × AV)) (C : (Nat → Bool) → List Ch) (K : St → Prop) : List Oper → Done → Option Prop
  | [], done => normG (finS base (killD p done)) fun s => some (K ⟨s, C (fun _ => true)⟩)
  | o :: rest, done => normG (availX p done.length done o.after.toList base) fun Si => match guardA ops ⟨Si, []⟩ o, dstOK n o.dst with
    | some true, true => (match stillX T ⟨Si, []⟩ o.op with
      | some (vc, x) => normA x fun x => (match p.creB done.length x, !(p.E.contains done.length) with
        | true, true => normG (done ++ [(o.dst, x)]) fun done => some (vc ∧ SymM X n ops p base C K rest done)
        | _, _ => none)
      | none => none)
    | some false, true => (match p.creB done.length (.tup []), !(p.E.contains done.length) with
        | true, true => normG (done ++ [(o.dst, .tup [])]) fun done => some (SymM X n ops p base C K rest done)
        | _, _ => none)
    | _, _ => none

theorem sm {p : Pl} {base : List (Nat × AV)} {C : (Nat → Bool) → List Ch} {l : List Oper} {done : Done} {q : Prop} (h : stepMK X n ops p base C K l done = some q) (hq : q) : SymM X n ops p base C K l done := by
  cases l with
  | nil =>
    simp only [stepMK, normG_eq, Option.some.injEq] at h
    subst h
    exact hq
  | cons o rest =>
    simp only [stepMK, normG_eq, normA_eq] at h
    split at h
    · rename_i hg hd
      split at h
      · rename_i vc x hs
        split at h
        · rename_i hc hE
          simp only [Option.some.injEq] at h
          subst h
          refine ⟨x, ⟨hc, fun L _ _ _ => ?_⟩, hq.2⟩
          rw [if_neg (not_mem_of_contains hE)]
          exact StepX.any hg hd hs hq.1
        · cases h
      · cases h
    · rename_i hg hd
      split at h
      · rename_i hc hE
        simp only [Option.some.injEq] at h
        subst h
        refine ⟨.tup [], ⟨hc, fun L _ _ _ => ?_⟩, hq⟩
        rw [if_neg (not_mem_of_contains hE)]
        exact X_none (by rw [guardA_any (c' := [])]; exact hg) hd
      · cases h
    · cases h

/-- One step, told. -/
theorem SM {p : Pl} {base : List (Nat × AV)} {C : (Nat → Bool) → List Ch} {o : Oper} {rest : List Oper} {done : Done} (x : AV) (hc : p.creB done.length x = true)
    (h : ∀ L : Nat → Bool, (∀ a ∈ p.anc done.length, L a = true) → (∀ q, done.length ∈ p.anc q → L q = false) → L done.length = false → StepX X n ops p (availX p done.length done o.after.toList base) (C L) (if done.length ∈ p.E then C (setM L done.length) else C L) done.length o x)
    (k : normG (done ++ [(o.dst, x)]) fun done => SymM X n ops p base C K rest done) : SymM X n ops p base C K (o :: rest) done := by
  rw [normG_eq] at k
  exact ⟨x, ⟨hc, h⟩, k⟩
end
end Go.Sy

/- The symbolic walk, part 55: new variables, and stores into them, in drawn regions of effects. -/
set_option linter.unusedSimpArgs false
set_option linter.unusedVariables false
namespace Go.Sy
open Go.RowKit

theorem freshS_filter (d : Nat) : ∀ S : List (Nat × AV), freshS d (S.filter fun q => q.2.no d) = true
  | [] => rfl
  | (k, y) :: S => by
    rw [List.filter_cons]
    split
    · rename_i h
      simp only [freshS, Bool.and_eq_true]
      first | exact ⟨h, freshS_filter d S⟩ | (refine ⟨?_, freshS_filter d S⟩; simpa using h)
    · exact freshS_filter d S
theorem get_filter {d : Nat} : ∀ {S : List (Nat × AV)} {k : Nat} {y : AV}, get S k = some y → y.no d = true → get (S.filter fun q => q.2.no d) k = some y
  | [], k, y, h, _ => by simp [get] at h
  | (j, z) :: S, k, y, h, hy => by
    rw [get_cons] at h
    by_cases hj : j = k
    · rw [if_pos hj] at h; cases h
      rw [List.filter_cons, if_pos (by simpa using hy), get_cons, if_pos hj]
    · rw [if_neg hj] at h
      rw [List.filter_cons]
      split
      · rw [get_cons, if_neg hj]; exact get_filter h hy
      · exact get_filter h hy
theorem get_unfilter {d : Nat} : ∀ {S : List (Nat × AV)} (hS : ∀ k y, get S k = some y → y.no d = true) {k : Nat} {y : AV}, get (S.filter fun q => q.2.no d) k = some y → get S k = some y := by
  intro S hS k y h
  cases hg : get S k with
  | some z =>
    have := get_filter hg (hS k z hg)
    rw [h] at this
    exact this.symm
  | none =>
    exfalso
    have : ∀ S : List (Nat × AV), get S k = none → get (S.filter fun q => q.2.no d) k = none := by
      intro S
      induction S with
      | nil => intro _; rfl
      | cons q S ih =>
        obtain ⟨j, z⟩ := q
        intro h
        rw [get_cons] at h
        by_cases hj : j = k
        · rw [if_pos hj] at h; cases h
        · rw [if_neg hj] at h
          rw [List.filter_cons]
          split
          · rw [get_cons, if_neg hj]; exact ih h
          · exact ih h
    rw [this S hg] at h; cases h

section
variable {P : Program} {T : Tab} {X : Ctx P T} {n : Nat} {e : Env} {st : St} {a : Act} {w : World} {ops : Array Oper} {K : St → Prop}

end
end Go.Sy

/- The symbolic walk, part 63: cells of variables that hold slices of one's own; slice literals and appends in drawn regions of effects. -/
set_option linter.unusedSimpArgs false
set_option linter.unusedVariables false
namespace Go.Sy
open Go.RowKit

section
variable {P : Program} {T : Tab} {X : Ctx P T} {n : Nat} {e : Env} {st : St} {a : Act} {w : World} {ops : Array Oper} {K : St → Prop}

end
end Go.Sy

/- The symbolic walk, part 64: arrays built; entries of maps deleted. -/
set_option linter.unusedSimpArgs false
set_option linter.unusedVariables false
set_option maxRecDepth 100000
namespace Go.Sy
open Go.RowKit
section
variable {P : Program} {T : Tab} {X : Ctx P T} {n : Nat} {ops : Array Oper}

end
end Go.Sy

/- The base of the great seat's texts. -/
set_option linter.unusedSimpArgs false
set_option linter.unusedVariables false
namespace Go.Proofs
open Go.Sy Go.Lib

abbrev INTc (i : Int) : List AV := [I64 i]
abbrev STRc (l : List UInt8) : List AV := [.s l]
abbrev BOLc (b : Bool) : List AV := [B b]
def by_ (l : List UInt8) (i : Nat) : Nat := (l.getD i 0).toNat
end Go.Proofs

/- Numbers as bytes: the plain law; contracts of varint and of the document's. -/
set_option linter.unusedSimpArgs false
set_option linter.unusedVariables false
set_option maxRecDepth 100000
namespace Go.Proofs
open Go.Sy Go.Lib

abbrev U64 (n : Int) : AV := .v (.int .u64 n)

abbrev TK := Nat × Nat × Int

/-! ### put and take -/

abbrev tkA (t : TK) : AV := .tup [U64 (t.1 : Nat), I64 (t.2.1 : Nat), I64 t.2.2]

end Go.Proofs

/- Regions whose order is drawn, in rounds of ranges over functions. -/
set_option linter.unusedSimpArgs false
set_option linter.unusedVariables false
set_option maxRecDepth 100000
namespace Go

section
variable {P : Program} {ops : Array Oper} {md : Region.Mode} {Q : Exit → Act → World → Prop}

end
end Go

/- The places of a configuration: the iterator. -/
set_option linter.unusedSimpArgs false
set_option linter.unusedVariables false
set_option maxRecDepth 100000
namespace Go.Proofs
open Go.RowKit Go.Shelf

attribute [local go_sem] Oper.semAt_some

def loP (i : Nat) : Int := if i = 0 then 1040 else 0
def hiP (i : Nat) : Int := if i = 4 then 64 else if i = 5 then 64 else if i = 6 then 16 else 1048576
abbrev plV (B i : Nat) : Value := .agg #[.pointer (some ⟨B, i, none⟩), .int .i64 (loP i), .int .i64 (hiP i)]
abbrev encP (B i : Nat) : Array Value := #[.int .i64 (i : Int), plV B i]

end Go.Proofs

/- The places of a configuration: the function that makes the iterator. -/
set_option linter.unusedSimpArgs false
set_option linter.unusedVariables false
set_option maxRecDepth 100000
namespace Go.Proofs
open Go.Sy Go.Lib

end Go.Proofs

/- Orders, rows, events: data (printed by gen.py) -/
set_option linter.unusedSimpArgs false
set_option linter.unusedVariables false
set_option maxRecDepth 100000
namespace Go.Proofs
open Go.Sy Go.Lib

structure Nte where
  conn : Int
  owner : Int
  kind : Int
  body : List UInt8
  err : Int
  reply : List UInt8

instance : Inhabited Nte := ⟨⟨0, 0, 0, [], 0, []⟩⟩
def Nte.c (x : Nte) : List AV := [I64 x.conn, I64 x.owner, I64 x.kind, .s x.body, I64 x.err, .s x.reply]
structure Rw where
  fat : Int
  act : Int
  note : Nte

instance : Inhabited Rw := ⟨⟨0, 0, default⟩⟩
def Rw.c (x : Rw) : List AV := [I64 x.fat, I64 x.act, I64 x.note.conn, I64 x.note.owner, I64 x.note.kind, .s x.note.body, I64 x.note.err, .s x.note.reply]
structure Ou where
  fat : Int
  conn : Int
  bytes : List UInt8
  closed : Bool

instance : Inhabited Ou := ⟨⟨0, 0, [], false⟩⟩
def Ou.c (x : Ou) : List AV := [I64 x.fat, I64 x.conn, .s x.bytes, B x.closed]
structure Evt where
  kind : Int
  conn : Int
  num : Int
  bytes : List UInt8

instance : Inhabited Evt := ⟨⟨0, 0, 0, []⟩⟩
def Evt.c (x : Evt) : List AV := [I64 x.kind, I64 x.conn, .v (.int .u64 x.num), .s x.bytes]
structure Cf where
  quantum : Int
  rate : Int
  burst : Int
  mem : Int
  slots : Int
  outs : Int
  conns : Int
  state : Int
  decode : Int

instance : Inhabited Cf := ⟨⟨0, 0, 0, 0, 0, 0, 0, 0, 0⟩⟩
structure Bdg where
  epoch : Int
  tag : Int

instance : Inhabited Bdg := ⟨⟨0, 0⟩⟩
structure Frm where
  kind : Int
  flags : Int
  body : List UInt8

instance : Inhabited Frm := ⟨⟨0, 0, []⟩⟩
structure Itm where
  conn : Int
  frame : Frm
  arrived : Int

instance : Inhabited Itm := ⟨⟨0, default, 0⟩⟩
structure Rpl where
  id : Int
  status : Int
  data : List UInt8

instance : Inhabited Rpl := ⟨⟨0, 0, []⟩⟩
structure Hlo where
  owner : Int
  epoch : Int
  tag : Int

instance : Inhabited Hlo := ⟨⟨0, 0, 0⟩⟩
structure Bnd where
  id : Int
  num : Int
  service : List UInt8
  method : List UInt8
  op : Int

instance : Inhabited Bnd := ⟨⟨0, 0, [], [], 0⟩⟩
structure Cal where
  id : Int
  wait : Int
  num : Int
  args : List UInt8

instance : Inhabited Cal := ⟨⟨0, 0, 0, []⟩⟩
structure Ord where
  id : Int
  op : Int
  owner : Int
  conf : Cf

instance : Inhabited Ord := ⟨⟨0, 0, 0, default⟩⟩
end Go.Proofs

/- Small functions (printed by gen.py) -/
set_option linter.unusedSimpArgs false
set_option linter.unusedVariables false
set_option maxRecDepth 100000
namespace Go.Proofs
open Go.Sy Go.Lib

end Go.Proofs

/- Small functions of the document (printed by gen.py) -/
set_option linter.unusedSimpArgs false
set_option linter.unusedVariables false
set_option maxRecDepth 100000
namespace Go.Proofs
open Go.Sy Go.Lib

end Go.Proofs

/- The server's parts: accounts, buckets. -/
set_option linter.unusedSimpArgs false
set_option linter.unusedVariables false
set_option maxRecDepth 100000
namespace Go.Proofs
open Go.Sy Go.Lib

abbrev accA (g : Nat) (l t : Int) : Abs := boxA g 165 [I64 l, I64 t]
theorem accSet_A (g : Nat) (l t x : Int) : FnA Tryz.prog 100 [PT g 0, I64 x] [accA g l t] (fun r cs' => cs' = [accA g (max 0 (min x 1048576)) t]) := by
  refine FnA.intro Tryz.tabOK Tryz.wide_ Tryz.func100 rfl (by decide) rfl (fun X => ?_)
  repeat (first | refine sc rfl ?_ | refine so rfl ?_ | refine sb rfl ?_)
  refine O_Xd (X_ptrnnil Tryz.underlying166 rfl rfl rfl) ?_
  repeat (first | refine sc rfl ?_ | refine so rfl ?_ | refine sb rfl ?_)
  refine C_true rfl rfl ?_
  repeat (first | refine sc rfl ?_ | refine so rfl ?_ | refine sb rfl ?_)
  first
    | refine O_Xn (X_storeP 0 (writes_box (by show 0 < 2; decide)) rfl rfl rfl rfl rfl rfl rfl) ?_
    | refine O_Xn (X_storeP 1 (writes_box (by show 0 < 2; decide)) rfl rfl rfl rfl rfl rfl rfl) ?_
    | refine O_Xn (X_storeP 2 (writes_box (by show 0 < 2; decide)) rfl rfl rfl rfl rfl rfl rfl) ?_
    | refine O_Xn (X_storeP 3 (writes_box (by show 0 < 2; decide)) rfl rfl rfl rfl rfl rfl rfl) ?_
    | refine O_Xn (X_storeP 4 (writes_box (by show 0 < 2; decide)) rfl rfl rfl rfl rfl rfl rfl) ?_
  repeat (first | refine sc rfl ?_ | refine so rfl ?_ | refine sb rfl ?_)
  first
    | exact ⟨_, [_], _, rfl, pickA_perm (is := [0]) (As := [_]) rfl, rfl, rfl⟩
    | exact ⟨_, [_], _, rfl, pickA_perm (is := [1]) (As := [_]) rfl, rfl, rfl⟩
    | exact ⟨_, [_], _, rfl, pickA_perm (is := [2]) (As := [_]) rfl, rfl, rfl⟩
    | exact ⟨_, [_], _, rfl, pickA_perm (is := [3]) (As := [_]) rfl, rfl, rfl⟩
    | exact ⟨_, [_], _, rfl, pickA_perm (is := [4]) (As := [_]) rfl, rfl, rfl⟩
theorem accNew_A (x : Int) : FnA Tryz.prog 71 [I64 x] [] (fun r cs' => ∃ g, r = PT g 0 ∧ cs' = [accA g (max 0 (min x 1048576)) 0]) := by
  refine FnA.intro Tryz.tabOK Tryz.wide_ Tryz.func71 rfl (by decide) rfl (fun X => ?_)
  iterate 11 (first | refine sc rfl ?_ | refine so rfl ?_ | refine sb rfl ?_)
  refine C_absb 3 rfl rfl rfl (fun g => ?_)
  repeat (first | refine sc rfl ?_ | refine so rfl ?_ | refine sb rfl ?_)
  first
    | refine O_callA [0] (accSet_A g 0 0 x) (by rfl) (by rfl) (by rfl) (by rfl) (by rfl) ?_
    | refine O_callA [1] (accSet_A g 0 0 x) (by rfl) (by rfl) (by rfl) (by rfl) (by rfl) ?_
    | refine O_callA [2] (accSet_A g 0 0 x) (by rfl) (by rfl) (by rfl) (by rfl) (by rfl) ?_
    | refine O_callA [3] (accSet_A g 0 0 x) (by rfl) (by rfl) (by rfl) (by rfl) (by rfl) ?_
    | refine O_callA [4] (accSet_A g 0 0 x) (by rfl) (by rfl) (by rfl) (by rfl) (by rfl) ?_
  rintro r cs' rfl
  repeat (first | refine sc rfl ?_ | refine so rfl ?_ | refine sb rfl ?_)
  first
    | exact ⟨_, [_], _, rfl, pickA_perm (is := [0]) (As := [_]) rfl, rfl, g, rfl, rfl⟩
    | exact ⟨_, [_], _, rfl, pickA_perm (is := [1]) (As := [_]) rfl, rfl, g, rfl, rfl⟩
    | exact ⟨_, [_], _, rfl, pickA_perm (is := [2]) (As := [_]) rfl, rfl, g, rfl, rfl⟩
    | exact ⟨_, [_], _, rfl, pickA_perm (is := [3]) (As := [_]) rfl, rfl, g, rfl, rfl⟩
    | exact ⟨_, [_], _, rfl, pickA_perm (is := [4]) (As := [_]) rfl, rfl, g, rfl, rfl⟩

end Go.Proofs
