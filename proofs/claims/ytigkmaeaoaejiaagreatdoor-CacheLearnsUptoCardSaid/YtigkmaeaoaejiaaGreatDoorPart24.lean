/-
 DERIVED:THE SHELF's CONTRACTS AT THIS DUMP,IN PLAIN WORDS (tools/lay-plain.mjs out of 'TryzShelf.lean',which tools/lay-shelf.mjs wrote):THE SAME DECLARATIONS UNDER THE SAME NAMES: 'import','namespace','open','def','theorem' AND NOTHING ELSE:no command of the shelf's:FOR A HAND-IN. Each laying:the table of numbers ('.._ren') and one theorem,a field a fact of the dump's own or the kernel's comparison;each contract:ONE APPLICATION.
-/
import Derived.Shelf.Sort.Plain
import Derived.Shelf.Slices.In.SortNone
import Derived.Test.YtigkmaeaoaejiaaGreatDoorProg
namespace Go.Proofs
open Go.Shelf
def Tryz.HK:Go.Shelf.Ren:=⟨fun|190=>90|125=>147|258=>146|128=>215|129=>216|302=>206|303=>207|304=>208|305=>209|306=>210|307=>211|308=>212|309=>213|310=>214|333=>233|329=>234|330=>235|334=>236|335=>237|336=>238|344=>240|n=>n,fun|31=>42|9=>9|3=>3|46=>237|0=>0|51=>321|53=>73|4=>4|183=>313|182=>312|131=>318|5=>5|218=>350|222=>354|228=>357|229=>358|n=>n,fun|n=>n⟩
theorem Tryz.OH:Go.Proofs.Lays.n190 Tryz.prog Tryz.HK:={
 mixed:=by kernel_rfl
 f125:=Tryz.func147.trans (congrArg some (by kernel_rfl))
 f128:=Tryz.func215.trans (congrArg some (by kernel_rfl))
 f129:=Tryz.func216.trans (congrArg some (by kernel_rfl))
 f190:=Tryz.func90.trans (congrArg some (by kernel_rfl))
 f258:=Tryz.func146.trans (congrArg some (by kernel_rfl))
 f302:=Tryz.func206.trans (congrArg some (by kernel_rfl))
 f303:=Tryz.func207.trans (congrArg some (by kernel_rfl))
 f304:=Tryz.func208.trans (congrArg some (by kernel_rfl))
 f305:=Tryz.func209.trans (congrArg some (by kernel_rfl))
 f306:=Tryz.func210.trans (congrArg some (by kernel_rfl))
 f307:=Tryz.func211.trans (congrArg some (by kernel_rfl))
 f308:=Tryz.func212.trans (congrArg some (by kernel_rfl))
 f309:=Tryz.func213.trans (congrArg some (by kernel_rfl))
 f310:=Tryz.func214.trans (congrArg some (by kernel_rfl))
 f329:=Tryz.func234.trans (congrArg some (by kernel_rfl))
 f330:=Tryz.func235.trans (congrArg some (by kernel_rfl))
 f333:=Tryz.func233.trans (congrArg some (by kernel_rfl))
 f334:=Tryz.func236.trans (congrArg some (by kernel_rfl))
 f335:=Tryz.func237.trans (congrArg some (by kernel_rfl))
 f336:=Tryz.func238.trans (congrArg some (by kernel_rfl))
 f344:=Tryz.func240.trans (congrArg some (by kernel_rfl))
 t0:=Tryz.underlying0
 a0:=Tryz.isAgg0
 z0:=Tryz.sizeOf0
 v0:=Tryz.zeroValue0
 t3:=Tryz.underlying3
 a3:=Tryz.isAgg3
 z3:=Tryz.sizeOf3
 v3:=Tryz.zeroValue3
 t4:=Tryz.underlying4
 a4:=Tryz.isAgg4
 z4:=Tryz.sizeOf4
 v4:=Tryz.zeroValue4
 t5:=Tryz.underlying5
 a5:=Tryz.isAgg5
 z5:=Tryz.sizeOf5
 v5:=Tryz.zeroValue5
 t9:=Tryz.underlying9
 a9:=Tryz.isAgg9
 z9:=Tryz.sizeOf9
 v9:=Tryz.zeroValue9
 t31:=Tryz.underlying42
 a31:=Tryz.isAgg42
 z31:=Tryz.sizeOf42
 v31:=Tryz.zeroValue42
 t46:=Tryz.underlying237
 a46:=Tryz.isAgg237
 z46:=Tryz.sizeOf237
 v46:=Tryz.zeroValue237
 t51:=Tryz.underlying321
 a51:=Tryz.isAgg321
 z51:=Tryz.sizeOf321
 v51:=Tryz.zeroValue321
 t53:=Tryz.underlying73
 a53:=Tryz.isAgg73
 z53:=Tryz.sizeOf73
 v53:=Tryz.zeroValue73
 t131:=Tryz.underlying318
 a131:=Tryz.isAgg318
 z131:=Tryz.sizeOf318
 v131:=Tryz.zeroValue318
 t182:=Tryz.underlying312
 a182:=Tryz.isAgg312
 z182:=Tryz.sizeOf312
 v182:=Tryz.zeroValue312
 t183:=Tryz.underlying313
 a183:=Tryz.isAgg313
 z183:=Tryz.sizeOf313
 v183:=Tryz.zeroValue313
 t218:=Tryz.underlying350
 a218:=Tryz.isAgg350
 z218:=Tryz.sizeOf350
 v218:=Tryz.zeroValue350
 t222:=Tryz.underlying354
 a222:=Tryz.isAgg354
 z222:=Tryz.sizeOf354
 v222:=Tryz.zeroValue354
 t228:=Tryz.underlying357
 a228:=Tryz.isAgg357
 z228:=Tryz.sizeOf357
 v228:=Tryz.zeroValue357
 t229:=Tryz.underlying358
 a229:=Tryz.isAgg358
 z229:=Tryz.sizeOf358
 v229:=Tryz.zeroValue358}
open Go.Sort Go.RowKit in
theorem Tryz.slices_Sort_string(blk off cap:Nat)(ss:List (List UInt8))(w:World)(hH:Holds encStr w blk off ss.toArray)(hblk:blk<w.heap.size)(hsz:ss.length<4611686018427387904):
  Calls Tryz.prog 90 #[.slice (some ⟨blk,off,none⟩) ss.length cap] w fun e w' =>
   e=.returned (.tuple #[])∧∃ n os,w' =grow (putRow encStr (Sort.ahead w n) blk off (ss.mergeSort fun x y=>decide (x≤y)).toArray) os:=Any.slices_Sort_string Tryz.OH blk off cap ss w hH hblk hsz
open Go.RowKit Go.Sort in
theorem Tryz.slices_Sort_string_none(p:Option Addr)(cap:Nat)(w:World):
  Calls Tryz.prog 90 #[.slice p 0 cap] w fun e w' =>e=.returned (.tuple #[])∧w' =w:=Any.slices_Sort_string_none Tryz.OH p cap w
end Go.Proofs
