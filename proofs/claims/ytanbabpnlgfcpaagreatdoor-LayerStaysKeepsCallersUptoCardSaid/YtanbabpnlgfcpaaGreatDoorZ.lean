/-
The laws burgeelaw4.LayerWhereIsOnce and burgeelaw4.LayerStaysKeepsCallers answer true whatever they are handed (of bulk up to the rows' bound; the tables of Go's library being as its text lays them).
-/
import Derived.Test.YtanbabpnlgfcpaaGreatDoorG34
import Derived.Test.YtanbabpnlgfcpaaGreatDoorG38
set_option maxRecDepth 8000
namespace Go.Proofs.YtanbabpnlgfcpaaGreatDoor
theorem whereCard:Rows.LayerWhereIsOnceUptoCardSaid:=lwCard
theorem staysCard:Rows.LayerStaysKeepsCallersUptoCardSaid:=lsCard
theorem bothCard:Rows.LayerWhereIsOnceUptoCardSaid∧Rows.LayerStaysKeepsCallersUptoCardSaid:=⟨whereCard,staysCard⟩
end Go.Proofs.YtanbabpnlgfcpaaGreatDoor
