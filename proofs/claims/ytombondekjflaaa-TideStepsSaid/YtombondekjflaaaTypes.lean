/- The facts about the types of this program that the walk needs: each in one step of the kernel. -/
import Derived.Test.YtombondekjflaaaAeNum
import Derived.Test.YtombondekjflaaaProg
import Derived.KernelRfl
namespace Go.Proofs.Ytombondekjflaaa
open Go.AE
theorem sz1 : size? Try.prog 1 = some 1 := by kernel_rfl
theorem zc1 : zeroC Try.prog 1 = some [.nilFunc] := by kernel_rfl
theorem by1 : bytes? Try.prog 1 = some 8 := by kernel_rfl
theorem sz2 : size? Try.prog 2 = some 1 := by kernel_rfl
theorem zc2 : zeroC Try.prog 2 = some [.int .i64 0] := by kernel_rfl
theorem by2 : bytes? Try.prog 2 = some 8 := by kernel_rfl
theorem sz3 : size? Try.prog 3 = some 1 := by kernel_rfl
theorem zc3 : zeroC Try.prog 3 = some [.int .i64 0] := by kernel_rfl
theorem by3 : bytes? Try.prog 3 = some 8 := by kernel_rfl
theorem sz4 : size? Try.prog 4 = some 1 := by kernel_rfl
theorem zc4 : zeroC Try.prog 4 = some [.bool false] := by kernel_rfl
theorem by4 : bytes? Try.prog 4 = some 1 := by kernel_rfl
theorem sz5 : size? Try.prog 5 = some 1 := by kernel_rfl
theorem zc5 : zeroC Try.prog 5 = some [.int .u8 0] := by kernel_rfl
theorem by5 : bytes? Try.prog 5 = some 1 := by kernel_rfl
theorem sz6 : size? Try.prog 6 = some 1 := by kernel_rfl
theorem zc6 : zeroC Try.prog 6 = some [.int .u8 0] := by kernel_rfl
theorem by6 : bytes? Try.prog 6 = some 1 := by kernel_rfl
theorem sz7 : size? Try.prog 7 = some 4 := by kernel_rfl
theorem zc7 : zeroC Try.prog 7 = some [.int .i64 0, .int .i64 0, .bool false, .int .u8 0] := by kernel_rfl
theorem by7 : bytes? Try.prog 7 = some 24 := by kernel_rfl
theorem pl7 : places Try.prog 7 = some [(0, 1), (1, 1), (2, 1), (3, 1)] := by kernel_rfl
theorem sh7 : Try.prog.stoodInHeld 7 = false := by kernel_rfl
theorem eg7 : Try.prog.eqGuardType Try.prog.depth 7 = false := by kernel_rfl
theorem sz8 : size? Try.prog 8 = some 4 := by kernel_rfl
theorem zc8 : zeroC Try.prog 8 = some [.int .i64 0, .int .i64 0, .bool false, .int .u8 0] := by kernel_rfl
theorem by8 : bytes? Try.prog 8 = some 24 := by kernel_rfl
theorem pl8 : places Try.prog 8 = some [(0, 1), (1, 1), (2, 1), (3, 1)] := by kernel_rfl
theorem sh8 : Try.prog.stoodInHeld 8 = false := by kernel_rfl
theorem eg8 : Try.prog.eqGuardType Try.prog.depth 8 = false := by kernel_rfl
theorem sz9 : size? Try.prog 9 = some 1 := by kernel_rfl
theorem zc9 : zeroC Try.prog 9 = some [.string ByteArray.empty] := by kernel_rfl
theorem by9 : bytes? Try.prog 9 = some 16 := by kernel_rfl
theorem sz10 : size? Try.prog 10 = some 1 := by kernel_rfl
theorem zc10 : zeroC Try.prog 10 = some [.string ByteArray.empty] := by kernel_rfl
theorem by10 : bytes? Try.prog 10 = some 16 := by kernel_rfl
theorem sz11 : size? Try.prog 11 = some 1 := by kernel_rfl
theorem zc11 : zeroC Try.prog 11 = some [.string ByteArray.empty] := by kernel_rfl
theorem by11 : bytes? Try.prog 11 = some 16 := by kernel_rfl
theorem sz12 : size? Try.prog 12 = some 1 := by kernel_rfl
theorem zc12 : zeroC Try.prog 12 = some [.int .u64 0] := by kernel_rfl
theorem by12 : bytes? Try.prog 12 = some 8 := by kernel_rfl
theorem sz13 : size? Try.prog 13 = some 2 := by kernel_rfl
theorem zc13 : zeroC Try.prog 13 = some [.string ByteArray.empty, .int .u64 0] := by kernel_rfl
theorem by13 : bytes? Try.prog 13 = some 24 := by kernel_rfl
theorem pl13 : places Try.prog 13 = some [(0, 1), (1, 1)] := by kernel_rfl
theorem eg13 : Try.prog.eqGuardType Try.prog.depth 13 = false := by kernel_rfl
theorem sz14 : size? Try.prog 14 = some 2 := by kernel_rfl
theorem zc14 : zeroC Try.prog 14 = some [.string ByteArray.empty, .int .u64 0] := by kernel_rfl
theorem by14 : bytes? Try.prog 14 = some 24 := by kernel_rfl
theorem pl14 : places Try.prog 14 = some [(0, 1), (1, 1)] := by kernel_rfl
theorem eg14 : Try.prog.eqGuardType Try.prog.depth 14 = false := by kernel_rfl
theorem sz15 : size? Try.prog 15 = some 1 := by kernel_rfl
theorem zc15 : zeroC Try.prog 15 = some [.pointer none] := by kernel_rfl
theorem by15 : bytes? Try.prog 15 = some 8 := by kernel_rfl
theorem sz16 : size? Try.prog 16 = some 1 := by kernel_rfl
theorem zc16 : zeroC Try.prog 16 = some [.pointer none] := by kernel_rfl
theorem by16 : bytes? Try.prog 16 = some 8 := by kernel_rfl
theorem sz17 : size? Try.prog 17 = some 1 := by kernel_rfl
theorem zc17 : zeroC Try.prog 17 = some [.pointer none] := by kernel_rfl
theorem by17 : bytes? Try.prog 17 = some 8 := by kernel_rfl
theorem sz18 : size? Try.prog 18 = some 1 := by kernel_rfl
theorem zc18 : zeroC Try.prog 18 = some [.pointer none] := by kernel_rfl
theorem by18 : bytes? Try.prog 18 = some 8 := by kernel_rfl
theorem pl18 : places Try.prog 18 = some [(0, 1)] := by kernel_rfl
theorem eg18 : Try.prog.eqGuardType Try.prog.depth 18 = false := by kernel_rfl
theorem sz19 : size? Try.prog 19 = some 1 := by kernel_rfl
theorem zc19 : zeroC Try.prog 19 = some [.pointer none] := by kernel_rfl
theorem by19 : bytes? Try.prog 19 = some 8 := by kernel_rfl
theorem pl19 : places Try.prog 19 = some [(0, 1)] := by kernel_rfl
theorem eg19 : Try.prog.eqGuardType Try.prog.depth 19 = false := by kernel_rfl
theorem sz21 : size? Try.prog 21 = some 1 := by kernel_rfl
theorem zc21 : zeroC Try.prog 21 = some [.int .i32 0] := by kernel_rfl
theorem by21 : bytes? Try.prog 21 = some 4 := by kernel_rfl
theorem sz22 : size? Try.prog 22 = some 1 := by kernel_rfl
theorem zc22 : zeroC Try.prog 22 = some [.int .u64 0] := by kernel_rfl
theorem by22 : bytes? Try.prog 22 = some 8 := by kernel_rfl
theorem sz23 : size? Try.prog 23 = some 4 := by kernel_rfl
theorem zc23 : zeroC Try.prog 23 = some [.int .u64 0, .int .u64 0, .int .u64 0, .int .u64 0] := by kernel_rfl
theorem by23 : bytes? Try.prog 23 = some 32 := by kernel_rfl
theorem eg23 : Try.prog.eqGuardType Try.prog.depth 23 = false := by kernel_rfl
theorem sz24 : size? Try.prog 24 = some 4 := by kernel_rfl
theorem zc24 : zeroC Try.prog 24 = some [.int .u64 0, .int .u64 0, .int .u64 0, .int .u64 0] := by kernel_rfl
theorem by24 : bytes? Try.prog 24 = some 32 := by kernel_rfl
theorem eg24 : Try.prog.eqGuardType Try.prog.depth 24 = false := by kernel_rfl
theorem sz25 : size? Try.prog 25 = some 5 := by kernel_rfl
theorem zc25 : zeroC Try.prog 25 = some [.int .u64 0, .int .u64 0, .int .u64 0, .int .u64 0, .int .i64 0] := by kernel_rfl
theorem by25 : bytes? Try.prog 25 = some 40 := by kernel_rfl
theorem pl25 : places Try.prog 25 = some [(0, 4), (4, 1)] := by kernel_rfl
theorem sh25 : Try.prog.stoodInHeld 25 = false := by kernel_rfl
theorem eg25 : Try.prog.eqGuardType Try.prog.depth 25 = false := by kernel_rfl
theorem sz26 : size? Try.prog 26 = some 5 := by kernel_rfl
theorem zc26 : zeroC Try.prog 26 = some [.int .u64 0, .int .u64 0, .int .u64 0, .int .u64 0, .int .i64 0] := by kernel_rfl
theorem by26 : bytes? Try.prog 26 = some 40 := by kernel_rfl
theorem pl26 : places Try.prog 26 = some [(0, 4), (4, 1)] := by kernel_rfl
theorem sh26 : Try.prog.stoodInHeld 26 = false := by kernel_rfl
theorem eg26 : Try.prog.eqGuardType Try.prog.depth 26 = false := by kernel_rfl
theorem sz27 : size? Try.prog 27 = some 1 := by kernel_rfl
theorem zc27 : zeroC Try.prog 27 = some [.int .i64 0] := by kernel_rfl
theorem by27 : bytes? Try.prog 27 = some 8 := by kernel_rfl
theorem pl27 : places Try.prog 27 = some [(0, 1)] := by kernel_rfl
theorem sh27 : Try.prog.stoodInHeld 27 = false := by kernel_rfl
theorem eg27 : Try.prog.eqGuardType Try.prog.depth 27 = false := by kernel_rfl
theorem sz28 : size? Try.prog 28 = some 1 := by kernel_rfl
theorem zc28 : zeroC Try.prog 28 = some [.int .i64 0] := by kernel_rfl
theorem by28 : bytes? Try.prog 28 = some 8 := by kernel_rfl
theorem pl28 : places Try.prog 28 = some [(0, 1)] := by kernel_rfl
theorem sh28 : Try.prog.stoodInHeld 28 = false := by kernel_rfl
theorem eg28 : Try.prog.eqGuardType Try.prog.depth 28 = false := by kernel_rfl
theorem sz29 : size? Try.prog 29 = some 1 := by kernel_rfl
theorem zc29 : zeroC Try.prog 29 = some [.nilFunc] := by kernel_rfl
theorem by29 : bytes? Try.prog 29 = some 8 := by kernel_rfl
theorem sz30 : size? Try.prog 30 = some 1 := by kernel_rfl
theorem zc30 : zeroC Try.prog 30 = some [.int .i64 0] := by kernel_rfl
theorem by30 : bytes? Try.prog 30 = some 8 := by kernel_rfl
theorem sz31 : size? Try.prog 31 = some 1 := by kernel_rfl
theorem zc31 : zeroC Try.prog 31 = some [.nilFunc] := by kernel_rfl
theorem by31 : bytes? Try.prog 31 = some 8 := by kernel_rfl
theorem sz32 : size? Try.prog 32 = some 1 := by kernel_rfl
theorem zc32 : zeroC Try.prog 32 = some [.nilFunc] := by kernel_rfl
theorem by32 : bytes? Try.prog 32 = some 8 := by kernel_rfl
theorem sz33 : size? Try.prog 33 = some 1 := by kernel_rfl
theorem zc33 : zeroC Try.prog 33 = some [.nilFunc] := by kernel_rfl
theorem by33 : bytes? Try.prog 33 = some 8 := by kernel_rfl
theorem sz34 : size? Try.prog 34 = some 1 := by kernel_rfl
theorem zc34 : zeroC Try.prog 34 = some [.nilFunc] := by kernel_rfl
theorem by34 : bytes? Try.prog 34 = some 8 := by kernel_rfl
theorem sz35 : size? Try.prog 35 = some 1 := by kernel_rfl
theorem zc35 : zeroC Try.prog 35 = some [.nilFunc] := by kernel_rfl
theorem by35 : bytes? Try.prog 35 = some 8 := by kernel_rfl
theorem sz36 : size? Try.prog 36 = some 1 := by kernel_rfl
theorem zc36 : zeroC Try.prog 36 = some [.nilFunc] := by kernel_rfl
theorem by36 : bytes? Try.prog 36 = some 8 := by kernel_rfl
theorem sz37 : size? Try.prog 37 = some 1 := by kernel_rfl
theorem zc37 : zeroC Try.prog 37 = some [.nilFunc] := by kernel_rfl
theorem by37 : bytes? Try.prog 37 = some 8 := by kernel_rfl
theorem sz38 : size? Try.prog 38 = some 1 := by kernel_rfl
theorem zc38 : zeroC Try.prog 38 = some [.slice none 0 0] := by kernel_rfl
theorem by38 : bytes? Try.prog 38 = some 24 := by kernel_rfl
theorem sz39 : size? Try.prog 39 = some 1 := by kernel_rfl
theorem zc39 : zeroC Try.prog 39 = some [.slice none 0 0] := by kernel_rfl
theorem by39 : bytes? Try.prog 39 = some 24 := by kernel_rfl
theorem sz41 : size? Try.prog 41 = some 1 := by kernel_rfl
theorem zc41 : zeroC Try.prog 41 = some [.nilFunc] := by kernel_rfl
theorem by41 : bytes? Try.prog 41 = some 8 := by kernel_rfl
theorem sz42 : size? Try.prog 42 = some 1 := by kernel_rfl
theorem zc42 : zeroC Try.prog 42 = some [.nilFunc] := by kernel_rfl
theorem by42 : bytes? Try.prog 42 = some 8 := by kernel_rfl
theorem sz43 : size? Try.prog 43 = some 1 := by kernel_rfl
theorem zc43 : zeroC Try.prog 43 = some [.nilFunc] := by kernel_rfl
theorem by43 : bytes? Try.prog 43 = some 8 := by kernel_rfl
theorem sz44 : size? Try.prog 44 = some 1 := by kernel_rfl
theorem zc44 : zeroC Try.prog 44 = some [.nilFunc] := by kernel_rfl
theorem by44 : bytes? Try.prog 44 = some 8 := by kernel_rfl
theorem sz45 : size? Try.prog 45 = some 1 := by kernel_rfl
theorem zc45 : zeroC Try.prog 45 = some [.slice none 0 0] := by kernel_rfl
theorem by45 : bytes? Try.prog 45 = some 24 := by kernel_rfl
theorem sz46 : size? Try.prog 46 = some 1 := by kernel_rfl
theorem zc46 : zeroC Try.prog 46 = some [.slice none 0 0] := by kernel_rfl
theorem by46 : bytes? Try.prog 46 = some 24 := by kernel_rfl
theorem pl46 : places Try.prog 46 = some [(0, 1)] := by kernel_rfl
theorem sh46 : Try.prog.stoodInHeld 46 = false := by kernel_rfl
theorem eg46 : Try.prog.eqGuardType Try.prog.depth 46 = false := by kernel_rfl
theorem sz47 : size? Try.prog 47 = some 1 := by kernel_rfl
theorem zc47 : zeroC Try.prog 47 = some [.slice none 0 0] := by kernel_rfl
theorem by47 : bytes? Try.prog 47 = some 24 := by kernel_rfl
theorem pl47 : places Try.prog 47 = some [(0, 1)] := by kernel_rfl
theorem sh47 : Try.prog.stoodInHeld 47 = false := by kernel_rfl
theorem eg47 : Try.prog.eqGuardType Try.prog.depth 47 = false := by kernel_rfl
theorem sz49 : size? Try.prog 49 = some 1 := by kernel_rfl
theorem zc49 : zeroC Try.prog 49 = some [.nilFunc] := by kernel_rfl
theorem by49 : bytes? Try.prog 49 = some 8 := by kernel_rfl
theorem sz50 : size? Try.prog 50 = some 1 := by kernel_rfl
theorem zc50 : zeroC Try.prog 50 = some [.slice none 0 0] := by kernel_rfl
theorem by50 : bytes? Try.prog 50 = some 24 := by kernel_rfl
theorem sz51 : size? Try.prog 51 = some 1 := by kernel_rfl
theorem zc51 : zeroC Try.prog 51 = some [.nilFunc] := by kernel_rfl
theorem by51 : bytes? Try.prog 51 = some 8 := by kernel_rfl
theorem sz52 : size? Try.prog 52 = some 1 := by kernel_rfl
theorem zc52 : zeroC Try.prog 52 = some [.nilFunc] := by kernel_rfl
theorem by52 : bytes? Try.prog 52 = some 8 := by kernel_rfl
theorem sz53 : size? Try.prog 53 = some 1 := by kernel_rfl
theorem zc53 : zeroC Try.prog 53 = some [.slice none 0 0] := by kernel_rfl
theorem by53 : bytes? Try.prog 53 = some 24 := by kernel_rfl
theorem sz54 : size? Try.prog 54 = some 1 := by kernel_rfl
theorem zc54 : zeroC Try.prog 54 = some [.nilFunc] := by kernel_rfl
theorem by54 : bytes? Try.prog 54 = some 8 := by kernel_rfl
theorem sz55 : size? Try.prog 55 = some 1 := by kernel_rfl
theorem zc55 : zeroC Try.prog 55 = some [.nilFunc] := by kernel_rfl
theorem by55 : bytes? Try.prog 55 = some 8 := by kernel_rfl
theorem sz56 : size? Try.prog 56 = some 1 := by kernel_rfl
theorem zc56 : zeroC Try.prog 56 = some [.nilFunc] := by kernel_rfl
theorem by56 : bytes? Try.prog 56 = some 8 := by kernel_rfl
theorem sz58 : size? Try.prog 58 = some 1 := by kernel_rfl
theorem zc58 : zeroC Try.prog 58 = some [.nilFunc] := by kernel_rfl
theorem by58 : bytes? Try.prog 58 = some 8 := by kernel_rfl
theorem sz59 : size? Try.prog 59 = some 1 := by kernel_rfl
theorem zc59 : zeroC Try.prog 59 = some [.nilFunc] := by kernel_rfl
theorem by59 : bytes? Try.prog 59 = some 8 := by kernel_rfl
theorem sz60 : size? Try.prog 60 = some 1 := by kernel_rfl
theorem zc60 : zeroC Try.prog 60 = some [.nilFunc] := by kernel_rfl
theorem by60 : bytes? Try.prog 60 = some 8 := by kernel_rfl
theorem sz61 : size? Try.prog 61 = some 1 := by kernel_rfl
theorem zc61 : zeroC Try.prog 61 = some [.nilFunc] := by kernel_rfl
theorem by61 : bytes? Try.prog 61 = some 8 := by kernel_rfl
theorem sz62 : size? Try.prog 62 = some 1 := by kernel_rfl
theorem zc62 : zeroC Try.prog 62 = some [.nilFunc] := by kernel_rfl
theorem by62 : bytes? Try.prog 62 = some 8 := by kernel_rfl
theorem sz64 : size? Try.prog 64 = some 1 := by kernel_rfl
theorem zc64 : zeroC Try.prog 64 = some [.nilFunc] := by kernel_rfl
theorem by64 : bytes? Try.prog 64 = some 8 := by kernel_rfl
theorem sz65 : size? Try.prog 65 = some 1 := by kernel_rfl
theorem zc65 : zeroC Try.prog 65 = some [.nilFunc] := by kernel_rfl
theorem by65 : bytes? Try.prog 65 = some 8 := by kernel_rfl
theorem sz66 : size? Try.prog 66 = some 1 := by kernel_rfl
theorem zc66 : zeroC Try.prog 66 = some [.nilFunc] := by kernel_rfl
theorem by66 : bytes? Try.prog 66 = some 8 := by kernel_rfl
theorem sz67 : size? Try.prog 67 = some 1 := by kernel_rfl
theorem zc67 : zeroC Try.prog 67 = some [.nilFunc] := by kernel_rfl
theorem by67 : bytes? Try.prog 67 = some 8 := by kernel_rfl
theorem sz68 : size? Try.prog 68 = some 1 := by kernel_rfl
theorem zc68 : zeroC Try.prog 68 = some [.nilFunc] := by kernel_rfl
theorem by68 : bytes? Try.prog 68 = some 8 := by kernel_rfl
theorem sz69 : size? Try.prog 69 = some 10 := by kernel_rfl
theorem zc69 : zeroC Try.prog 69 = some [.int .i64 0, .int .u64 0, .int .u64 0, .int .u64 0, .int .u64 0, .int .i64 0, .int .i64 0, .int .i64 0, .int .i64 0, .bool false] := by kernel_rfl
theorem by69 : bytes? Try.prog 69 = some 80 := by kernel_rfl
theorem pl69 : places Try.prog 69 = some [(0, 1), (1, 4), (5, 1), (6, 1), (7, 1), (8, 1), (9, 1)] := by kernel_rfl
theorem sh69 : Try.prog.stoodInHeld 69 = false := by kernel_rfl
theorem eg69 : Try.prog.eqGuardType Try.prog.depth 69 = false := by kernel_rfl
theorem sz70 : size? Try.prog 70 = some 10 := by kernel_rfl
theorem zc70 : zeroC Try.prog 70 = some [.int .i64 0, .int .u64 0, .int .u64 0, .int .u64 0, .int .u64 0, .int .i64 0, .int .i64 0, .int .i64 0, .int .i64 0, .bool false] := by kernel_rfl
theorem by70 : bytes? Try.prog 70 = some 80 := by kernel_rfl
theorem pl70 : places Try.prog 70 = some [(0, 1), (1, 4), (5, 1), (6, 1), (7, 1), (8, 1), (9, 1)] := by kernel_rfl
theorem sh70 : Try.prog.stoodInHeld 70 = false := by kernel_rfl
theorem eg70 : Try.prog.eqGuardType Try.prog.depth 70 = false := by kernel_rfl
theorem sz71 : size? Try.prog 71 = some 1 := by kernel_rfl
theorem zc71 : zeroC Try.prog 71 = some [.nilFunc] := by kernel_rfl
theorem by71 : bytes? Try.prog 71 = some 8 := by kernel_rfl
theorem sz72 : size? Try.prog 72 = some 1 := by kernel_rfl
theorem zc72 : zeroC Try.prog 72 = some [.slice none 0 0] := by kernel_rfl
theorem by72 : bytes? Try.prog 72 = some 24 := by kernel_rfl
theorem sz73 : size? Try.prog 73 = some 1 := by kernel_rfl
theorem zc73 : zeroC Try.prog 73 = some [.nilFunc] := by kernel_rfl
theorem by73 : bytes? Try.prog 73 = some 8 := by kernel_rfl
theorem sz74 : size? Try.prog 74 = some 1 := by kernel_rfl
theorem zc74 : zeroC Try.prog 74 = some [.slice none 0 0] := by kernel_rfl
theorem by74 : bytes? Try.prog 74 = some 24 := by kernel_rfl
theorem sz75 : size? Try.prog 75 = some 1 := by kernel_rfl
theorem zc75 : zeroC Try.prog 75 = some [.nilFunc] := by kernel_rfl
theorem by75 : bytes? Try.prog 75 = some 8 := by kernel_rfl
theorem sz76 : size? Try.prog 76 = some 1 := by kernel_rfl
theorem zc76 : zeroC Try.prog 76 = some [.nilFunc] := by kernel_rfl
theorem by76 : bytes? Try.prog 76 = some 8 := by kernel_rfl
theorem sz77 : size? Try.prog 77 = some 1 := by kernel_rfl
theorem zc77 : zeroC Try.prog 77 = some [.nilFunc] := by kernel_rfl
theorem by77 : bytes? Try.prog 77 = some 8 := by kernel_rfl
theorem sz78 : size? Try.prog 78 = some 1 := by kernel_rfl
theorem zc78 : zeroC Try.prog 78 = some [.nilFunc] := by kernel_rfl
theorem by78 : bytes? Try.prog 78 = some 8 := by kernel_rfl
theorem sz79 : size? Try.prog 79 = some 1 := by kernel_rfl
theorem zc79 : zeroC Try.prog 79 = some [.nilFunc] := by kernel_rfl
theorem by79 : bytes? Try.prog 79 = some 8 := by kernel_rfl
theorem sz80 : size? Try.prog 80 = some 1 := by kernel_rfl
theorem zc80 : zeroC Try.prog 80 = some [.slice none 0 0] := by kernel_rfl
theorem by80 : bytes? Try.prog 80 = some 24 := by kernel_rfl
theorem sz81 : size? Try.prog 81 = some 1 := by kernel_rfl
theorem zc81 : zeroC Try.prog 81 = some [.nilFunc] := by kernel_rfl
theorem by81 : bytes? Try.prog 81 = some 8 := by kernel_rfl
theorem sz82 : size? Try.prog 82 = some 1 := by kernel_rfl
theorem zc82 : zeroC Try.prog 82 = some [.nilFunc] := by kernel_rfl
theorem by82 : bytes? Try.prog 82 = some 8 := by kernel_rfl
theorem sz83 : size? Try.prog 83 = some 1 := by kernel_rfl
theorem zc83 : zeroC Try.prog 83 = some [.int .u64 0] := by kernel_rfl
theorem by83 : bytes? Try.prog 83 = some 8 := by kernel_rfl
theorem sz84 : size? Try.prog 84 = some 1 := by kernel_rfl
theorem zc84 : zeroC Try.prog 84 = some [.nilFunc] := by kernel_rfl
theorem by84 : bytes? Try.prog 84 = some 8 := by kernel_rfl
theorem sz85 : size? Try.prog 85 = some 1 := by kernel_rfl
theorem zc85 : zeroC Try.prog 85 = some [.nilFunc] := by kernel_rfl
theorem by85 : bytes? Try.prog 85 = some 8 := by kernel_rfl
theorem sz86 : size? Try.prog 86 = some 1 := by kernel_rfl
theorem zc86 : zeroC Try.prog 86 = some [.nilFunc] := by kernel_rfl
theorem by86 : bytes? Try.prog 86 = some 8 := by kernel_rfl
theorem sz87 : size? Try.prog 87 = some 1 := by kernel_rfl
theorem zc87 : zeroC Try.prog 87 = some [.nilFunc] := by kernel_rfl
theorem by87 : bytes? Try.prog 87 = some 8 := by kernel_rfl
theorem sz88 : size? Try.prog 88 = some 1 := by kernel_rfl
theorem zc88 : zeroC Try.prog 88 = some [.nilFunc] := by kernel_rfl
theorem by88 : bytes? Try.prog 88 = some 8 := by kernel_rfl
theorem sz89 : size? Try.prog 89 = some 1 := by kernel_rfl
theorem zc89 : zeroC Try.prog 89 = some [.nilFunc] := by kernel_rfl
theorem by89 : bytes? Try.prog 89 = some 8 := by kernel_rfl
theorem sz90 : size? Try.prog 90 = some 1 := by kernel_rfl
theorem zc90 : zeroC Try.prog 90 = some [.nilFunc] := by kernel_rfl
theorem by90 : bytes? Try.prog 90 = some 8 := by kernel_rfl
theorem sz92 : size? Try.prog 92 = some 1 := by kernel_rfl
theorem zc92 : zeroC Try.prog 92 = some [.nilFunc] := by kernel_rfl
theorem by92 : bytes? Try.prog 92 = some 8 := by kernel_rfl
theorem sz93 : size? Try.prog 93 = some 1 := by kernel_rfl
theorem zc93 : zeroC Try.prog 93 = some [.nilFunc] := by kernel_rfl
theorem by93 : bytes? Try.prog 93 = some 8 := by kernel_rfl
theorem sz94 : size? Try.prog 94 = some 1 := by kernel_rfl
theorem zc94 : zeroC Try.prog 94 = some [.nilFunc] := by kernel_rfl
theorem by94 : bytes? Try.prog 94 = some 8 := by kernel_rfl
end Go.Proofs.Ytombondekjflaaa
