/-
 Channels: the law of muxes, walked: its beginning. Own work; printed by a program.
-/
import Derived.Test.YtlgpalokjckdcaaChaMA
import Derived.Test.YtlgpalokjckdcaaChaGL
import Derived.Deep.RegionHeld3
namespace Go.Am.Cha
open Go Go.Am Go.Am.Lib Go.Lib Go.Proofs Go.RowKit
open Go.Am.Own
open Go.Am.Tmf (FS FAt RS RAt RC OkF idleL Rel rs0 fs0)
set_option maxRecDepth 100000

theorem pickM_calls (n m:Int) (h0:0 < m) (h1:m < 2 ^ 62) (w:World):Calls Try.prog 17 #[.int .i64 n,.int .i64 m] w fun e w'=>e = .returned (.int .i64 (n % m)) ∧ Below w.heap.size w w' :=
 Tmf.flat_calls Tmf.okPck w (args:=[.int .i64 n,.int .i64 m]) rfl (v:=.int .i64 (n % m)) rfl ⟨h0,h1,fun x hx=>by rw [hx];exact ⟨rfl,rfl⟩⟩
/-- What a mux is made with. -/
def setC (c z:Int) (P Q:Nat → Int):Array Value:=#[.int .i64 c,.int .i64 z,.int .i64 (P 0),.int .i64 (P 1),.int .i64 (P 2),.int .i64 (P 3),.int .i64 (P 4),.int .i64 (P 5),.int .i64 (P 6),.int .i64 (P 7),.int .i64 (Q 0),.int .i64 (Q 1),.int .i64 (Q 2),.int .i64 (Q 3),.int .i64 (Q 4),.int .i64 (Q 5),.int .i64 (Q 6),.int .i64 (Q 7)]
variable {w0:World}
end Go.Am.Cha
