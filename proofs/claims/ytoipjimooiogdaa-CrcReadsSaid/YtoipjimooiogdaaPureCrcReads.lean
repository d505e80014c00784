/- Of every text of bytes: what it is as a pack, and as packs one behind the other, the program answers as the document does. No condition but the row's own. -/
import Derived.Test.YtoipjimooiogdaaCrcAll
import Derived.Test.YtoipjimooiogdaaPCrcReadsx3
namespace Go.Proofs.Ytoipjimooiogdaa.Pure
open Go.RowKit Go.Proofs.Ytoipjimooiogdaa.PCrcReads Go.Proofs.YtoipjimooiogdaaW.PrintWords Go.Proofs.YtoipjimooiogdaaW.PrintLast

theorem CrcReads : auspicelaw02_CrcReads.Pure := Crc.reads

end Go.Proofs.Ytoipjimooiogdaa.Pure
